/-
  Parts of what is proved for this claim; each declaration is one of the seat's texts.
-/
import Derived.Test.YtpjcebajkfeacaaGreatDoorJGA
import Derived.Test.YtpjcebajkfeacaaGreatDoorJGC
import Derived.Test.YtpjcebajkfeacaaGreatDoorJGD
import Derived.Test.YtpjcebajkfeacaaGreatDoorJGF
import Derived.Test.YtpjcebajkfeacaaGreatDoorJGJ
import Derived.Test.YtpjcebajkfeacaaGreatDoorJGK
import Derived.Test.YtpjcebajkfeacaaGreatDoorJGN
import Derived.Test.YtpjcebajkfeacaaGreatDoorJGU
import Derived.Test.YtpjcebajkfeacaaGreatDoorJGV
import Derived.Test.YtpjcebajkfeacaaGreatDoorJGX
import Derived.Test.YtpjcebajkfeacaaGreatDoorJHA
import Derived.Test.YtpjcebajkfeacaaGreatDoorJHD
import Derived.Test.YtpjcebajkfeacaaGreatDoorJHE
import Derived.Test.YtpjcebajkfeacaaGreatDoorJHF
import Derived.Test.YtpjcebajkfeacaaGreatDoorJHI
import Derived.Test.YtpjcebajkfeacaaGreatDoorJHL
import Derived.Test.YtpjcebajkfeacaaGreatDoorJHN
import Derived.Test.YtpjcebajkfeacaaGreatDoorJHO
import Derived.Test.YtpjcebajkfeacaaGreatDoorJHQ
import Derived.Test.YtpjcebajkfeacaaGreatDoorJHR
import Derived.Test.YtpjcebajkfeacaaGreatDoorJHS
import Derived.Test.YtpjcebajkfeacaaGreatDoorJJD
import Derived.WalkKit
import Derived.WalkSpells
import Derived.WalkLawsBesides
import Derived.ProofKit
import Derived.Deep.Slices
import Derived.Deep.AppendSrc
import Derived.Lib.Hide
import Derived.Lib.ItoaNum
import Derived.Lib.Join
import Derived.Still
import Derived.StillTactics
import Derived.Recover
import Derived.Defers
import Derived.Deep.QuietTactic
import Derived.BigQuiet
import Derived.Handy
import Derived.Laws.Bits64b
import Derived.Lib.Zigzag
import Derived.OwnWalk
import Derived.Deep.DeepCutAuto
import Derived.Deep.LoopGhost
import Derived.Lib.Bytealg
import Derived.Laws.Externs
import Derived.Laws.CopyRow
import Derived.Laws.IdiomCopy
import Derived.Maps.OwnSet
import Derived.Maps.RangeWalk
import Derived.Shelf.SortM.Plain
import Derived.Shelf.SortM.SortNone
import Derived.Ground.SlgmProg
import Derived.Maps.OwnOps
import Derived.Shelf.Strconv.Itoa4
import Derived.Shelf.Strings.BuilderK
import Derived.Shelf.Strings.OnBuilder
import Derived.Ground.NamesProg
import Derived.Lib.AppendIntMem
import Derived.Lib.UnsafeStr
import Derived.Deep.WholeRow
import Derived.Maps.Views
set_option linter.unusedVariables false
set_option linter.unusedSimpArgs false
namespace Go.Proofs.YtpjcebajkfeacaaGreatDoor
open Go Go.RowKit Go.Deep
theorem RFindAt.keep {w w' : World} {T : Nat → Prop} {B : Nat} {L : List Prc} (h : RFindAt w T B L) (k : Keep No w w') : RFindAt w' T B L := ⟨fun W hW n => h.find W (k.trans hW) n, h.home⟩
def GivesPlF (w : World) (lo : Nat) (x : Plan × Int) (e : Ending) (w' : World) : Prop :=
  ∃ cs : Array Value, e = .returned (.tuple #[.agg cs, .int .i64 x.2]) ∧ Rd planSh w' (Fr lo w'.heap.size) cs.toList x.1 ∧ Keep No w w'
theorem GivesPlT.fresh {w : World} {lo hi : Nat} {x : Plan × Int} {e : Ending} {w' : World} (h : GivesPlT w (Fr lo hi) x e w') (hlo : lo ≤ w.heap.size) : GivesPlF w lo x e w' := by
  obtain ⟨cs, h1, h2, h3⟩ := h
  exact ⟨cs, h1, h2.mono planSh fun k hk hh => by
    rcases hh with ⟨⟨h4, -⟩, -⟩ | ⟨h4, h5⟩
    · exact ⟨h4, hk⟩
    · exact ⟨by omega, h5⟩, h3⟩
set_option maxRecDepth 10000 in
set_option maxHeartbeats 2000000 in
theorem rAccept_any (w : World) (S T : Nat → Prop) (B : Nat) (L : List Prc) (h : RFindAt w S B L) (v : Value) (b : Bytes) (hb : Rd bytesSh w T [v] b) (hw : (Lit.int .i64 (reqGet b).1.client).wf = true ∧ (Lit.int .u64 (reqGet b).1.token).wf = true ∧ (reqGet b).1.name.size ≤ 9223372036854775806) (most : Int) :
    Calls Tryz.prog 26 #[.pointer (some ⟨B, 0, none⟩), v, .int .i64 most] w (GivesPl w (if (reqGet b).2.1 ≠ 0 then (plan0, (reqGet b).2.1) else judgeL L (reqGet b).1 most)) := by
  obtain ⟨res, hres⟩ : ∃ res, res = (if (reqGet b).2.1 ≠ 0 then (plan0, (reqGet b).2.1) else judgeL L (reqGet b).1 most) := ⟨_, rfl⟩
  rw [← hres]
  have iv : v.oneCell' = true := by obtain ⟨a, c, e, -⟩ := Rd.sliceForm hb; simp at e; subst e; rfl
  have K0 := (Keep.refl No w).alloc (.cells #[.int .i64 0, .int .u64 0, .string ⟨#[]⟩, .slice none 0 0, .int .i64 0, .slice none 0 0, .slice none 0 0] 50)
  have y0 := blk_new w (.cells #[.int .i64 0, .int .u64 0, .string ⟨#[]⟩, .slice none 0 0, .int .i64 0, .slice none 0 0, .slice none 0 0] 50)
  have hg0 := rrqGet_any _ T v b (hb.agree _ K0.agreeNo)
  rw [reqGetR_eq] at hg0
  have hg := hg0.mono (R' := fun e w3 => ∃ a n c, e = .returned (.tuple #[.agg #[.int .i64 (reqGet b).1.client, .int .u64 (reqGet b).1.token, .string (reqGet b).1.name, .slice a n c], .int .i64 (reqGet b).2.1, .int .i64 (reqGet b).2.2]) ∧ w3.heap[w.heap.size]? = some (.cells #[.int .i64 0, .int .u64 0, .string ⟨#[]⟩, .slice none 0 0, .int .i64 0, .slice none 0 0, .slice none 0 0] 50 (0, 0)) ∧ RowKit.Hid (Own valueSh 96 w3 (Fr (w.alloc (.cells #[.int .i64 0, .int .u64 0, .string ⟨#[]⟩, .slice none 0 0, .int .i64 0, .slice none 0 0, .slice none 0 0] 50)).heap.size w3.heap.size) (.slice a n c) (reqGet b).1.args ∧ Keep No w w3)) (by
    rintro e w3 ⟨a, n, c, rfl, ho, hk⟩
    exact ⟨a, n, c, rfl, hk.blk y0 (fun x => x), ho, K0.trans hk⟩)
  have HX := Lib.hid (And.intro h (And.intro hw hres))
  clear h hb K0 y0 hw hg0
  generalize hrg : (reqGet b).2.2 = at' at *
  clear hrg
  by_cases he : (reqGet b).2.1 = 0
  · rw [if_neg (fun hh => hh he)] at hres
    rw [he] at hg
    have HJ : RowKit.Hid (∀ W3 W a n c, Keep No w W3 → (w.alloc (.cells #[.int .i64 0, .int .u64 0, .string ⟨#[]⟩, .slice none 0 0, .int .i64 0, .slice none 0 0, .slice none 0 0] 50)).heap.size ≤ W3.heap.size → Keep No W3 W → Own valueSh 96 W3 (Fr (w.alloc (.cells #[.int .i64 0, .int .u64 0, .string ⟨#[]⟩, .slice none 0 0, .int .i64 0, .slice none 0 0, .slice none 0 0] 50)).heap.size W3.heap.size) (.slice a n c) (reqGet b).1.args → Calls Tryz.prog 24 #[.pointer (some ⟨B, 0, none⟩), .agg #[.int .i64 (reqGet b).1.client, .int .u64 (reqGet b).1.token, .string (reqGet b).1.name, .slice a n c], .int .i64 most] W (GivesPlF W (w.alloc (.cells #[.int .i64 0, .int .u64 0, .string ⟨#[]⟩, .slice none 0 0, .int .i64 0, .slice none 0 0, .slice none 0 0] 50)).heap.size res)) := fun W3 W a n c h3 h3' h4 ho => by
      rw [hres]
      obtain ⟨a', c', ef, -⟩ := ho.form
      have hrd : Rd requestSh W (Fr (w.alloc (.cells #[.int .i64 0, .int .u64 0, .string ⟨#[]⟩, .slice none 0 0, .int .i64 0, .slice none 0 0, .slice none 0 0] 50)).heap.size W3.heap.size) [.int .i64 (reqGet b).1.client, .int .u64 (reqGet b).1.token, .string (reqGet b).1.name, .slice a n c] (reqGet b).1 :=
        ⟨[.int .i64 (reqGet b).1.client], _, rfl, ⟨rfl, HX.out.2.1.1⟩, [.int .u64 (reqGet b).1.token], _, rfl, ⟨rfl, HX.out.2.1.2.1⟩, [.string (reqGet b).1.name], _, rfl, ⟨rfl, by rw [maxLen_is]; exact Nat.le_succ_of_le HX.out.2.1.2.2⟩, [.slice a n c], _, rfl, (ho.agree h4.agreeNo).rd, rfl⟩
      exact (rJudge_any W S _ B L (HX.out.1.keep (h3.trans h4)) _ (reqGet b).1 hrd HX.out.2.1.2.2 most).mono fun e w5 hg => hg.fresh (by have h5 := h4.size; have h6 := h3'; omega)
    clear hres he
    generalize (reqGet b).1.client = qc at *
    generalize (reqGet b).1.token = qt at *
    generalize (reqGet b).1.name = qn at *
    go_enter Tryz.func26, Tryz.ntmps26
    go_wp2_with (go_at_call 19; refine hg.mono ?_; clear hg; rintro e w3 ⟨a, n, c, rfl, y3, H3⟩)
    refine (HJ.out w3 _ a n c H3.out.2 (by simp only [World.size_alloc]; exact blk_lt y3) ((Keep.refl No w3).alloc (.cells #[.int .i64 qc, .int .u64 qt, .string qn, .slice a n c] 29)) H3.out.1).mono ?_
    rintro e w4 ⟨cs, rfl, hr4, hk4⟩
    generalize hpp : res.1 = p at *
    have HPP := Lib.hid hpp
    clear hpp
    obtain ⟨x1, z1, x2, z2, x3, z3, hcs, -⟩ := plan_cells hr4
    obtain rfl : cs = #[.int .i64 p.client, .int .u64 p.token, .string p.name, .slice x1 p.args.length z1, .int .i64 p.how, .slice x2 p.reads.length z2, .slice x3 p.writes.length z3] := by cases cs; simp at hcs; rw [hcs]
    have R9 := hk4.blk (blk_alloc (o' := .cells #[.int .i64 qc, .int .u64 qt, .string qn, .slice a n c] 29) y3) (fun x => x)
    have K9 := (H3.out.2.alloc (.cells #[.int .i64 qc, .int .u64 qt, .string qn, .slice a n c] 29)).trans hk4
    have c9 := blk_cell R9
    have z9 := blk_fro R9
    have HR4 := Lib.hid (And.intro hr4 (And.intro hk4.size (And.intro H3.out.2.size (blk_lt y3))))
    clear hr4 hk4 hcs y3 HX
    go_wp2_with fail
    have y9 := blk_seven R9 (.int .i64 p.client) (.int .u64 p.token) (.string p.name) (.slice x1 p.args.length z1) (.int .i64 p.how) (.slice x2 p.reads.length z2) (.slice x3 p.writes.length z3)
    have k9 := keep_seven K9 (b := w.heap.size) (Nat.le_refl _) (.int .i64 p.client) (.int .u64 p.token) (.string p.name) (.slice x1 p.args.length z1) (.int .i64 p.how) (.slice x2 p.reads.length z2) (.slice x3 p.writes.length z3)
    have s9 := blk_cell y9
    refine bodyPost_ret (v := .tuple #[.agg #[.int .i64 p.client, .int .u64 p.token, .string p.name, .slice x1 p.args.length z1, .int .i64 p.how, .slice x2 p.reads.length z2, .slice x3 p.writes.length z3], .int .i64 res.2]) (by simp [results, Tryz.results26, go_sem, s9]) rfl ?_
    obtain ⟨h1, h2, h3, h4⟩ := HR4.out
    simp only [World.size_alloc] at h1 h2
    have O9 := (h1.agree planSh (agree_seven (b := w.heap.size) (fun hh => by have := hh.1; omega) (.int .i64 p.client) (.int .u64 p.token) (.string p.name) (.slice x1 p.args.length z1) (.int .i64 p.how) (.slice x2 p.reads.length z2) (.slice x3 p.writes.length z3))).mono planSh (T := Fr w.heap.size w4.heap.size) fun k _ hk => ⟨by have := hk.1; omega, hk.2⟩
    refine ⟨_, rfl, ?_, k9⟩
    rw [HPP.out]
    simpa using O9
  · rw [if_pos he] at hres
    have he' : ((reqGet b).2.1 != 0) = true := by simpa using he
    have HRES := Lib.hid hres
    clear hres he
    generalize (reqGet b).1.client = qc at *
    generalize (reqGet b).1.token = qt at *
    generalize (reqGet b).1.name = qn at *
    generalize hec : (reqGet b).2.1 = ec at *
    clear hec
    go_enter Tryz.func26, Tryz.ntmps26
    go_wp2_with (go_at_call 19; refine hg.mono ?_; clear hg; rintro e w3 ⟨a, n, c, rfl, y3, H3⟩; have R9 := blk_alloc (o' := .cells #[.int .i64 qc, .int .u64 qt, .string qn, .slice a n c] 29) y3; have K9 := H3.out.2.alloc (.cells #[.int .i64 qc, .int .u64 qt, .string qn, .slice a n c] 29); have c9 := blk_cell R9; have z9 := blk_fro R9)
    have y9 := blk_seven R9 (.int .i64 0) (.int .u64 0) (.string ⟨#[]⟩) (.slice none 0 0) (.int .i64 0) (.slice none 0 0) (.slice none 0 0)
    have k9 := keep_seven K9 (b := w.heap.size) (Nat.le_refl _) (.int .i64 0) (.int .u64 0) (.string ⟨#[]⟩) (.slice none 0 0) (.int .i64 0) (.slice none 0 0) (.slice none 0 0)
    have s9 := blk_cell y9
    refine bodyPost_ret (v := .tuple #[.agg #[.int .i64 0, .int .u64 0, .string ⟨#[]⟩, .slice none 0 0, .int .i64 0, .slice none 0 0, .slice none 0 0], .int .i64 ec]) (by simp [results, Tryz.results26, go_sem, s9]) rfl ?_
    rw [HRES.out]
    exact zero_given k9 _
theorem find_nil (w : World) (n : ByteArray) : Calls Tryz.prog 74 #[.pointer none, .string n] w (Found w [] n) := by
  have K1 := (Keep.refl No w).alloc (.cells #[.string ⟨#[]⟩, .slice none 0 0, .bool false, .slice none 0 0, .slice none 0 0, .int .i64 0, .slice none 0 0, .slice none 0 0] 130)
  have x1 := blk_new w (.cells #[.string ⟨#[]⟩, .slice none 0 0, .bool false, .slice none 0 0, .slice none 0 0, .int .i64 0, .slice none 0 0, .slice none 0 0] 130)
  have c1 := blk_cell x1
  have z1 := blk_fro x1
  go_enter Tryz.func74, Tryz.ntmps74
  go_wp2_with fail
  refine bodyPost_ret (v := .tuple #[.agg #[.string ⟨#[]⟩, .slice none 0 0, .bool false, .slice none 0 0, .slice none 0 0, .int .i64 0, .slice none 0 0, .slice none 0 0], .bool false]) (by simp [results, Tryz.results74, go_sem, c1]) rfl ?_
  exact ⟨_, rfl, prc0_rd _ _, K1⟩
theorem nil_finds (w : World) : FindAt w (.pointer none) [] := ⟨fun W _ n _ => find_nil W n, fun p hp => (by cases hp)⟩
theorem judge_nil (w : World) (T : Nat → Prop) (cs : List Value) (q : Req) (hq : Rd requestSh w T cs q) (hn : q.name.size ≤ 9223372036854775806) (most : Int) (ht : Tab w) :
    Calls Tryz.prog 23 #[.pointer none, .agg cs.toArray, .int .i64 most] w (GivesPl w (judgeL [] q most)) := judge_gen w T _ [] (nil_finds w) cs q hq hn most ht
theorem rJudge_nil (w : World) (T : Nat → Prop) (cs : List Value) (q : Req) (hq : Rd requestSh w T cs q) (hn : q.name.size ≤ 9223372036854775806) (most : Int) :
    Calls Tryz.prog 24 #[.pointer none, .agg cs.toArray, .int .i64 most] w (GivesPl w (judgeL [] q most)) := by
  obtain ⟨a, c, rfl, h4, w1, w2, w3⟩ := req_cells hq
  have K0 := ((Keep.refl No w).alloc (.cells #[.int .i64 q.client, .int .u64 q.token, .string q.name, .slice a q.args.length c] 29)).alloc (.cells #[.int .i64 0, .int .u64 0, .string ⟨#[]⟩, .slice none 0 0, .int .i64 0, .slice none 0 0, .slice none 0 0] 50)
  have x0 := blk_alloc (o' := .cells #[.int .i64 0, .int .u64 0, .string ⟨#[]⟩, .slice none 0 0, .int .i64 0, .slice none 0 0, .slice none 0 0] 50) (blk_new w (.cells #[.int .i64 q.client, .int .u64 q.token, .string q.name, .slice a q.args.length c] 29))
  have y0 := blk_new (w.alloc (.cells #[.int .i64 q.client, .int .u64 q.token, .string q.name, .slice a q.args.length c] 29)) (.cells #[.int .i64 0, .int .u64 0, .string ⟨#[]⟩, .slice none 0 0, .int .i64 0, .slice none 0 0, .slice none 0 0] 50)
  simp only [World.size_alloc] at y0
  have q0 := blk_cell x0
  have hch := (rCheck_any _ T _ q (hq.agree requestSh K0.agreeNo) hn).mono (R' := fun e w5 => e = .returned (.int .i64 q.check) ∧ w5.heap[w.heap.size + 1]? = some (.cells #[.int .i64 0, .int .u64 0, .string ⟨#[]⟩, .slice none 0 0, .int .i64 0, .slice none 0 0, .slice none 0 0] 50 (0, 0)) ∧ RowKit.Hid (Keep No w w5)) (by
    rintro e w5 ⟨rfl, hk⟩
    exact ⟨rfl, hk.blk y0 (fun x => x), K0.trans hk⟩)
  clear h4 w1 w2 w3 hn hq K0 x0 y0
  by_cases hc : q.check = 0
  · have hj : judgeL [] q most = (plan0, 92) := by unfold judgeL; rw [if_neg (by rw [hc]; simp)]; rfl
    rw [hj]
    rw [hc] at hch
    clear hj hc
    go_enter Tryz.func24, Tryz.ntmps24
    go_wp2_with (go_at_call 49; refine hch.mono ?_; clear hch; rintro e w5 ⟨rfl, R9, HK5⟩; have c9 := blk_cell R9; have z9 := blk_fro R9; have K9 := HK5.out)
    have y9 := blk_seven R9 (.int .i64 0) (.int .u64 0) (.string ⟨#[]⟩) (.slice none 0 0) (.int .i64 0) (.slice none 0 0) (.slice none 0 0)
    have k9 := keep_seven K9 (b := w.heap.size + 1) (Nat.le_succ _) (.int .i64 0) (.int .u64 0) (.string ⟨#[]⟩) (.slice none 0 0) (.int .i64 0) (.slice none 0 0) (.slice none 0 0)
    have s9 := blk_cell y9
    refine bodyPost_ret (v := .tuple #[.agg #[.int .i64 0, .int .u64 0, .string ⟨#[]⟩, .slice none 0 0, .int .i64 0, .slice none 0 0, .slice none 0 0], .int .i64 92]) (by simp [results, Tryz.results24, go_sem, s9]) rfl ?_
    exact zero_given k9 _
  · have hj : judgeL [] q most = (plan0, q.check) := by unfold judgeL; rw [if_pos hc]
    rw [hj]
    have hc' : (q.check != 0) = true := by simpa using hc
    clear hj hc
    generalize q.check = ec at *
    go_enter Tryz.func24, Tryz.ntmps24
    go_wp2_with (go_at_call 49; refine hch.mono ?_; clear hch; rintro e w5 ⟨rfl, R9, HK5⟩; have c9 := blk_cell R9; have z9 := blk_fro R9; have K9 := HK5.out)
    have y9 := blk_seven R9 (.int .i64 0) (.int .u64 0) (.string ⟨#[]⟩) (.slice none 0 0) (.int .i64 0) (.slice none 0 0) (.slice none 0 0)
    have k9 := keep_seven K9 (b := w.heap.size + 1) (Nat.le_succ _) (.int .i64 0) (.int .u64 0) (.string ⟨#[]⟩) (.slice none 0 0) (.int .i64 0) (.slice none 0 0) (.slice none 0 0)
    have s9 := blk_cell y9
    refine bodyPost_ret (v := .tuple #[.agg #[.int .i64 0, .int .u64 0, .string ⟨#[]⟩, .slice none 0 0, .int .i64 0, .slice none 0 0, .slice none 0 0], .int .i64 ec]) (by simp [results, Tryz.results24, go_sem, s9]) rfl ?_
    exact zero_given k9 _
set_option maxRecDepth 10000 in
theorem plan_same (w : World) (S T : Nat → Prop) (cs ds : List Value) (p : Plan) (h : Rd planSh w S cs p) (h' : Rd planSh w T ds p) :
    Calls Tryz.prog 27 #[.agg cs.toArray, .agg ds.toArray] w (Says w true) := by
  obtain ⟨a1, c1, a2, c2, a3, c3, rfl, h1, h2, h3, g0, g1, g2, g3⟩ := plan_cells h
  obtain ⟨b1, d1, b2, d2, b3, d3, rfl, i1, i2, i3, -⟩ := plan_cells h'
  have K2 := ((Keep.refl No w).alloc (.cells #[.int .i64 p.client, .int .u64 p.token, .string p.name, .slice a1 p.args.length c1, .int .i64 p.how, .slice a2 p.reads.length c2, .slice a3 p.writes.length c3] 50)).alloc (.cells #[.int .i64 p.client, .int .u64 p.token, .string p.name, .slice b1 p.args.length d1, .int .i64 p.how, .slice b2 p.reads.length d2, .slice b3 p.writes.length d3] 50)
  have x1 := blk_alloc (o' := .cells #[.int .i64 p.client, .int .u64 p.token, .string p.name, .slice b1 p.args.length d1, .int .i64 p.how, .slice b2 p.reads.length d2, .slice b3 p.writes.length d3] 50) (blk_new w (.cells #[.int .i64 p.client, .int .u64 p.token, .string p.name, .slice a1 p.args.length c1, .int .i64 p.how, .slice a2 p.reads.length c2, .slice a3 p.writes.length c3] 50))
  have x2 := blk_new (w.alloc (.cells #[.int .i64 p.client, .int .u64 p.token, .string p.name, .slice a1 p.args.length c1, .int .i64 p.how, .slice a2 p.reads.length c2, .slice a3 p.writes.length c3] 50)) (.cells #[.int .i64 p.client, .int .u64 p.token, .string p.name, .slice b1 p.args.length d1, .int .i64 p.how, .slice b2 p.reads.length d2, .slice b3 p.writes.length d3] 50)
  simp only [World.size_alloc] at x2
  have q1 := blk_cell x1
  have q2 := blk_cell x2
  have hr1 : Rd requestSh w S [.int .i64 p.client, .int .u64 p.token, .string p.name, .slice a1 p.args.length c1] (mkReq p.client p.token p.name p.args) := ⟨[.int .i64 p.client], _, rfl, ⟨rfl, g0⟩, [.int .u64 p.token], _, rfl, ⟨rfl, g1⟩, [.string p.name], _, rfl, ⟨rfl, g2⟩, [.slice a1 p.args.length c1], [], rfl, h1, rfl⟩
  have hr2 : Rd requestSh w T [.int .i64 p.client, .int .u64 p.token, .string p.name, .slice b1 p.args.length d1] (mkReq p.client p.token p.name p.args) := ⟨[.int .i64 p.client], _, rfl, ⟨rfl, g0⟩, [.int .u64 p.token], _, rfl, ⟨rfl, g1⟩, [.string p.name], _, rfl, ⟨rfl, g2⟩, [.slice b1 p.args.length d1], [], rfl, i1, rfl⟩
  have he := (rrqEqual_any _ S T _ _ _ _ (hr1.agree requestSh K2.agreeNo) (hr2.agree requestSh K2.agreeNo)).mono (R' := fun e w3 => e = .returned (.bool true) ∧ w3.heap[w.heap.size]? = some (.cells #[.int .i64 p.client, .int .u64 p.token, .string p.name, .slice a1 p.args.length c1, .int .i64 p.how, .slice a2 p.reads.length c2, .slice a3 p.writes.length c3] 50 (0, 0)) ∧ w3.heap[w.heap.size + 1]? = some (.cells #[.int .i64 p.client, .int .u64 p.token, .string p.name, .slice b1 p.args.length d1, .int .i64 p.how, .slice b2 p.reads.length d2, .slice b3 p.writes.length d3] 50 (0, 0)) ∧ RowKit.Hid (Keep No w w3)) (by
    rintro e w3 ⟨rfl, hk⟩
    exact ⟨by rw [(Req.eqb_iff _ _).2 rfl], hk.blk x1 (fun x => x), hk.blk x2 (fun x => x), K2.trans hk⟩)
  have HF : RowKit.Hid (∀ W, Keep No w W → Calls Tryz.prog 28 #[.agg #[.slice a2 p.reads.length c2, .slice a3 p.writes.length c3], .agg #[.slice b2 p.reads.length d2, .slice b3 p.writes.length d3]] W fun e w' => e = .returned (.bool true) ∧ RowKit.Hid (Keep No w w')) := fun W hW => by
    refine (rSame_any W S T _ _ _ _ (mkFp p.reads p.writes) (mkFp p.reads p.writes) ⟨h2.agree (.slice .str) hW.agreeNo, h3.agree (.slice .str) hW.agreeNo⟩ ⟨i2.agree (.slice .str) hW.agreeNo, i3.agree (.slice .str) hW.agreeNo⟩).mono ?_
    rintro e w' ⟨rfl, hk⟩
    exact ⟨by simp, hW.trans hk⟩
  clear h h' h1 h2 h3 g0 g1 g2 g3 i1 i2 i3 hr1 hr2 K2 x1 x2
  go_enter Tryz.func27, Tryz.ntmps27
  go_wp2_with (first | (go_at_call 20; refine he.mono ?_; clear he q1 q2; rintro e w3 ⟨rfl, y1, y2, H3⟩; have r1 := blk_cell y1; have r2 := blk_cell y2) | (go_at_call 28; refine (HF.out _ H3.out).mono ?_; rintro e w4 ⟨rfl, H4⟩))
  go_ret
  exact ⟨rfl, H4.out⟩
end Go.Proofs.YtpjcebajkfeacaaGreatDoor
namespace Go.Proofs.YtpjcebajkfeacaaGreatDoor
open Go Go.RowKit Go.Deep
theorem findP_same {L L' : List Prc} {n : ByteArray} (hp : L.Perm L') (hd : (L'.map Prc.name).Nodup) : findP L n = findP L' n := by
  have key : ∀ (A B : List Prc), A.Perm B → findP A n = none → findP B n = none := fun A B hAB h => by
    unfold findP at h ⊢
    rw [List.find?_eq_none] at h ⊢
    exact fun x hx => h x (hAB.mem_iff.2 hx)
  cases h1 : findP L n with
  | none => exact (key _ _ hp h1).symm
  | some p =>
    cases h2 : findP L' n with
    | none => rw [key _ _ hp.symm h2] at h1; cases h1
    | some p' =>
      obtain ⟨m1, n1⟩ := findP_mem h1
      obtain ⟨m2, n2⟩ := findP_mem h2
      have m1' := hp.mem_iff.1 m1
      obtain ⟨i, hi, rfl⟩ := List.getElem_of_mem m1'
      obtain ⟨j, hj, rfl⟩ := List.getElem_of_mem m2
      have hij : i = j := (List.getElem_inj (xs := L'.map Prc.name) (h₀ := by simpa using hi) (h₁ := by simpa using hj) hd).1 (by simp [n1, n2])
      subst hij
      rfl
theorem judge_perm {L L' : List Prc} (hp : L.Perm L') (hd : (L'.map Prc.name).Nodup) (q : Req) (most : Int) : judgeL L q most = judgeL L' q most := by
  unfold judgeL
  rw [findP_same hp hd]
def Stay (A : World → Prop) : Prop := ∀ W W', Keep No W W' → A W → A W'
structure PlB (P : Nat) (pl : Plan) (v1 v2 v3 : Value) (W : World) : Prop where
  blk : W.heap[P]? = some (.cells #[.int .i64 pl.client, .int .u64 pl.token, .string pl.name, v1, .int .i64 pl.how, v2, v3] 50 (0, 0))
  rd : ∃ S, Rd planSh W S [.int .i64 pl.client, .int .u64 pl.token, .string pl.name, v1, .int .i64 pl.how, v2, v3] pl
theorem PlB.stay (P : Nat) (pl : Plan) (v1 v2 v3 : Value) : Stay (PlB P pl v1 v2 v3) := fun W W' k h => by
  obtain ⟨S, hr⟩ := h.rd
  exact ⟨k.blk h.blk (fun x => x), S, hr.agree _ k.agreeNo⟩
theorem Stay.and {A B : World → Prop} (h : Stay A) (k : Stay B) : Stay fun W => A W ∧ B W := fun W W' e x => ⟨h W W' e x.1, k W W' e x.2⟩
def PV (A : World → Prop) (pl : Plan) (er : Int) (e : Ending) (W : World) : Prop := ∃ a1 c1 a2 c2 a3 c3, e = .returned (.tuple #[.agg #[.int .i64 pl.client, .int .u64 pl.token, .string pl.name, .slice a1 pl.args.length c1, .int .i64 pl.how, .slice a2 pl.reads.length c2, .slice a3 pl.writes.length c3], .int .i64 er]) ∧ RowKit.Hid (A W ∧ ∃ S, Rd planSh W S [.int .i64 pl.client, .int .u64 pl.token, .string pl.name, .slice a1 pl.args.length c1, .int .i64 pl.how, .slice a2 pl.reads.length c2, .slice a3 pl.writes.length c3] pl)
theorem givesPlT_pv {A : World → Prop} (hA : Stay A) {W W' : World} (h : A W) {T : Nat → Prop} {x : Plan × Int} {pl : Plan} {er : Int} (hx : x = (pl, er)) {e : Ending} (hg : GivesPlT W T x e W') : PV A pl er e W' := by
  subst hx
  obtain ⟨cs, rfl, hr, hk⟩ := hg
  have hr' := hr
  obtain ⟨a1, c1, a2, c2, a3, c3, e1, -⟩ := plan_cells hr
  obtain rfl : cs = #[.int .i64 pl.client, .int .u64 pl.token, .string pl.name, .slice a1 pl.args.length c1, .int .i64 pl.how, .slice a2 pl.reads.length c2, .slice a3 pl.writes.length c3] := by cases cs; simp at e1; rw [e1]
  exact ⟨a1, c1, a2, c2, a3, c3, rfl, hA _ _ hk h, _, hr'⟩
theorem givesPl_pv {A : World → Prop} (hA : Stay A) {W W' : World} (h : A W) {x : Plan × Int} {pl : Plan} {er : Int} (hx : x = (pl, er)) {e : Ending} (hg : GivesPl W x e W') : PV A pl er e W' := givesPlT_pv hA h hx (hg.wide (T := No))
theorem plb_mk {A : World → Prop} (hA : Stay A) {W : World} {pl : Plan} {v1 v2 v3 : Value} (h : A W ∧ ∃ S, Rd planSh W S [.int .i64 pl.client, .int .u64 pl.token, .string pl.name, v1, .int .i64 pl.how, v2, v3] pl) :
    ∃ A' : World → Prop, Stay A' ∧ (∀ W2, A' W2 → A W2 ∧ PlB W.heap.size pl v1 v2 v3 W2) ∧ A' (W.alloc (.cells #[.int .i64 pl.client, .int .u64 pl.token, .string pl.name, v1, .int .i64 pl.how, v2, v3] 50)) := by
  obtain ⟨h1, S, hr⟩ := h
  have k := (Keep.refl No W).alloc (.cells #[.int .i64 pl.client, .int .u64 pl.token, .string pl.name, v1, .int .i64 pl.how, v2, v3] 50)
  exact ⟨_, hA.and (PlB.stay W.heap.size pl v1 v2 v3), fun W2 x => x, hA _ _ k h1, blk_new _ _, S, hr.agree _ k.agreeNo⟩
structure JdW (w : World) (q : Req) (R0 : Nat) (a : Option Addr) (c : Nat) (vr : Value) (raw : Bytes) (B R : Nat) (W : World) : Prop where
  d : ∃ m la lc L, DcW w q R0 a c B m R la lc L W
  raw : Rd bytesSh W (Lt w.heap.size) [vr] raw
theorem JdW.stay {w : World} {q : Req} {R0 : Nat} {a : Option Addr} {c : Nat} {vr : Value} {raw : Bytes} {B R : Nat} : Stay (JdW w q R0 a c vr raw B R) := fun W W' k h => by
  obtain ⟨m, la, lc, L, hd⟩ := h.d
  exact ⟨⟨m, la, lc, L, hd.more k⟩, h.raw.agree _ k.agreeNo⟩
theorem JdW.judge {w : World} {q : Req} {R0 : Nat} {a : Option Addr} {c : Nat} {vr : Value} {raw : Bytes} {B R : Nat} {W : World} (h : JdW w q R0 a c vr raw B R W) {S : Nat → Prop} {cs : List Value} {r : Req} (hr : Rd requestSh W S cs r) (hn : r.name.size ≤ 1048576) (most : Int) :
    Calls Tryz.prog 23 #[.pointer (some ⟨B, 0, none⟩), .agg cs.toArray, .int .i64 most] W (GivesPl W (judgeL homeL r most)) := by
  obtain ⟨m, la, lc, L, hd⟩ := h.d
  obtain ⟨n, ⟨S', hS, -⟩, -⟩ := hd.libs
  exact judge_any W S' S B m homeL hS cs r hr (by omega) most hd.tab
theorem JdW.finds {w : World} {q : Req} {R0 : Nat} {a : Option Addr} {c : Nat} {vr : Value} {raw : Bytes} {B R : Nat} {W : World} (h : JdW w q R0 a c vr raw B R W) : ∃ S L, RFindAt W S R L ∧ L.Perm homeL := by
  obtain ⟨m, la, lc, L, hd⟩ := h.d
  obtain ⟨n, -, ⟨S, hS, -⟩, hp, -⟩ := hd.libs
  exact ⟨S, L, hS.finds fun p hp' => homeL_home p (hp.mem_iff.1 hp'), hp⟩
theorem JdW.rjudge {w : World} {q : Req} {R0 : Nat} {a : Option Addr} {c : Nat} {vr : Value} {raw : Bytes} {B R : Nat} {W : World} (h : JdW w q R0 a c vr raw B R W) {S : Nat → Prop} {cs : List Value} {r : Req} (hr : Rd requestSh W S cs r) (hn : r.name.size ≤ 1048576) (most : Int) :
    Calls Tryz.prog 24 #[.pointer (some ⟨R, 0, none⟩), .agg cs.toArray, .int .i64 most] W (GivesPlT W S (judgeL homeL r most)) := by
  obtain ⟨T, L, hf, hp⟩ := h.finds
  rw [← judge_perm hp homeL_names]
  exact rJudge_any W T S R L hf cs r hr (by omega) most
def acceptL (raw : Bytes) (most : Int) : Plan × Int := if (reqGet raw).2.1 ≠ 0 then (plan0, (reqGet raw).2.1) else judgeL homeL (reqGet raw).1 most
theorem get_wf {raw : Bytes} (hA : AllB raw) : (Lit.int .i64 (reqGet raw).1.client).wf = true ∧ (Lit.int .u64 (reqGet raw).1.token).wf = true ∧ (reqGet raw).1.name.size ≤ 9223372036854775806 := by
  have hok := reqGet_ok hA
  exact ⟨wf_i64 hok.1.c0 hok.1.c1, wf_u64q hok.1.t0 hok.1.t1, by have := hok.2.1; omega⟩
theorem JdW.accept {w : World} {q : Req} {R0 : Nat} {a : Option Addr} {c : Nat} {vr : Value} {raw : Bytes} {B R : Nat} {W : World} (h : JdW w q R0 a c vr raw B R W) {S : Nat → Prop} {v : Value} (hb : Rd bytesSh W S [v] raw) (most : Int) :
    Calls Tryz.prog 25 #[.pointer (some ⟨B, 0, none⟩), v, .int .i64 most] W (GivesPl W (acceptL raw most)) := by
  obtain ⟨m, la, lc, L, hd⟩ := h.d
  obtain ⟨n, ⟨S', hS, -⟩, -⟩ := hd.libs
  exact accept_any W S' S B m homeL hS v raw hb (get_wf (bytes_all hb)) most hd.tab
theorem JdW.raccept {w : World} {q : Req} {R0 : Nat} {a : Option Addr} {c : Nat} {vr : Value} {raw : Bytes} {B R : Nat} {W : World} (h : JdW w q R0 a c vr raw B R W) {S : Nat → Prop} {v : Value} (hb : Rd bytesSh W S [v] raw) (most : Int) :
    Calls Tryz.prog 26 #[.pointer (some ⟨R, 0, none⟩), v, .int .i64 most] W (GivesPl W (acceptL raw most)) := by
  obtain ⟨T, L, hf, hp⟩ := h.finds
  unfold acceptL
  rw [← judge_perm hp homeL_names]
  exact rAccept_any W T S R L hf v raw hb (get_wf (bytes_all hb)) most
structure GvW (q : Req) (G : Nat) (ag : Option Addr) (cg : Nat) (W : World) : Prop where
  blk : W.heap[G]? = some (.cells #[.int .i64 q.client, .int .u64 q.token, .string q.name, .slice ag q.args.length cg] 29 (0, 0))
  rd : ∃ S, Rd requestSh W S [.int .i64 q.client, .int .u64 q.token, .string q.name, .slice ag q.args.length cg] q
theorem GvW.stay {q : Req} {G : Nat} {ag : Option Addr} {cg : Nat} : Stay (GvW q G ag cg) := fun W W' k h => by
  obtain ⟨S, hr⟩ := h.rd
  exact ⟨k.blk h.blk (fun x => x), S, hr.agree _ k.agreeNo⟩
theorem judge_none (q : Req) (most : Int) : (judgeL [] q most).1 = plan0 := by
  unfold judgeL
  split
  · rfl
  · rfl
end Go.Proofs.YtpjcebajkfeacaaGreatDoor
namespace Go.Proofs.YtpjcebajkfeacaaGreatDoor
open Go Go.RowKit Go.Deep
set_option maxRecDepth 10000 in
set_option maxHeartbeats 4000000 in
theorem RequestJudges_main (w : World) (ht : Tab w) (q : Req) (a : Option Addr) (c : Nat) (hq : Rd requestSh w (Lt w.heap.size) [.int .i64 q.client, .int .u64 q.token, .string q.name, .slice a q.args.length c] q) (hb : q.Small) (raw : Bytes) (ar : Option Addr) (cr : Nat) (hr : Rd bytesSh w (Lt w.heap.size) [.slice ar raw.length cr] raw) (hrl : raw.length ≤ 1048576) (most : Int) :
    Calls Tryz.prog 5 #[.agg #[.int .i64 q.client, .int .u64 q.token, .string q.name, .slice a q.args.length c], .slice ar raw.length cr, .int .i64 most] w fun e w' => e = .returned (.bool true) ∧ Keep No w w' := by
  have HH := Lib.hid (And.intro hq (And.intro hb (And.intro ht (And.intro hr hrl))))
  clear hq hb ht hr hrl
  go_enter Tryz.func5, Tryz.ntmps5
  go_upto_region 1 with fail
  have x1 := blk_new w (.cells #[.int .i64 q.client, .int .u64 q.token, .string q.name, .slice a q.args.length c] 29)
  have K1 := (Keep.refl No w).alloc (.cells #[.int .i64 q.client, .int .u64 q.token, .string q.name, .slice a q.args.length c] 29)
  generalize (w.alloc (.cells #[.int .i64 q.client, .int .u64 q.token, .string q.name, .slice a q.args.length c] 29)) = w1 at *
  obtain ⟨R0, hR0⟩ : ∃ R0, w.heap.size = R0 := ⟨_, rfl⟩
  rw [hR0] at x1 ⊢
  have HR0 := Lib.hid hR0
  clear hR0
  have hlong := (long9_any w1 _ _ q (HH.out.1.agree _ K1.agreeNo) HH.out.2.1).mono (R' := fun e w2 => ∃ b, e = .returned (.bool b) ∧ RowKit.Hid (Keep No w w2 ∧ w2.heap[R0]? = some (.cells #[.int .i64 q.client, .int .u64 q.token, .string q.name, .slice a q.args.length c] 29 (0, 0)))) (by
    rintro e w2 ⟨b, rfl, hk⟩
    exact ⟨b, rfl, K1.trans hk, hk.blk x1 (fun x => x)⟩)
  have q1 := blk_cell x1
  clear x1 K1
  obtain ⟨vr, hvr⟩ : ∃ vr, vr = Value.slice ar raw.length cr := ⟨_, rfl⟩
  go_cut [28] (fun t wx => ∃ bad, t = .bool bad ∧ RowKit.Hid (Keep No w wx ∧ wx.heap[R0]? = some (.cells #[.int .i64 q.client, .int .u64 q.token, .string q.name, .slice a q.args.length c] 29 (0, 0))))
  case first =>
    go_wp2_with (go_at_call 14; refine hlong.mono ?_; clear hlong q1; rintro e w2 ⟨b, rfl, H2⟩)
    all_goals
      go_meet
      case rel => exact ⟨_, rfl, H2.out⟩
  case rest =>
    obtain ⟨bad, rfl, H2⟩ := hcut
    cases bad with
    | true =>
      have hl := (live9_any wc (HH.out.2.2.1.keep H2.out.1)).mono (R' := fun e w' => e = .returned (.bool true) ∧ RowKit.Hid (Keep No w w')) (by
        rintro e w' ⟨rfl, hk⟩
        exact ⟨rfl, H2.out.1.trans hk⟩)
      go_wp2_with (go_at_call 13; refine hl.mono ?_; clear hl; rintro e w3 ⟨rfl, H3⟩)
      go_ret
      exact ⟨rfl, H3.out⟩
    | false =>
      generalize wc = w2 at *
      have hlib := (libs_any w2).mono (R' := fun e w3 => ∃ B R, e = .returned (.tuple #[.pointer (some ⟨B, 0, none⟩), .pointer (some ⟨R, 0, none⟩)]) ∧ RowKit.Hid (JdW w q R0 a c (.slice ar raw.length cr) raw B R w3)) (by
        rintro e w3 ⟨B, m, R, la, lc, L, rfl, h⟩
        have k := h.out.2
        have k2 := H2.out.1.trans k
        exact ⟨B, R, rfl, ⟨m, la, lc, L, k2, HH.out.2.2.1.keep k2, k.blk H2.out.2 (fun x => x), HH.out.1.agree _ k2.agreeNo, ⟨_, h.out.1⟩, by have := HR0.out; omega⟩, HH.out.2.2.2.1.agree _ k2.agreeNo⟩)
      go_upto_region 6 with (go_at_call 22; refine hlib.mono ?_; clear hlib; rintro e w3 ⟨B, R, rfl, H3⟩)
      clear H2
      have q3 : ∀ j, w3.cell? ⟨R0, j, none⟩ = #[.int .i64 q.client, .int .u64 q.token, .string q.name, .slice a q.args.length c][j]? := by
        obtain ⟨m, la, lc, L, hd⟩ := H3.out.d
        exact blk_cell hd.r0
      have hrr : Rd requestSh w3 (Lt w.heap.size) [.int .i64 q.client, .int .u64 q.token, .string q.name, .slice a q.args.length c] q := by
        obtain ⟨m, la, lc, L, hd⟩ := H3.out.d
        exact hd.rr
      have how := (own9_any w3 _ _ q hrr HH.out.2.1.args).mono (R' := fun e w4 => ∃ ag cg, e = .returned (.agg #[.int .i64 q.client, .int .u64 q.token, .string q.name, .slice ag q.args.length cg]) ∧ RowKit.Hid (JdW w q R0 a c (.slice ar raw.length cr) raw B R w4 ∧ ∃ S, Rd requestSh w4 S [.int .i64 q.client, .int .u64 q.token, .string q.name, .slice ag q.args.length cg] q)) (by
        rintro e w4 ⟨ag, cg, rfl, h⟩
        exact ⟨ag, cg, rfl, JdW.stay _ _ h.out.2 H3.out, _, h.out.1⟩)
      clear hrr
      go_upto_region 7 with (go_at_call 15; refine how.mono ?_; clear how q3; rintro e w4 ⟨ag, cg, rfl, H4⟩)
      clear H3
      obtain ⟨A0, hA0⟩ : ∃ A0 : World → Prop, A0 = fun W => JdW w q R0 a c (.slice ar raw.length cr) raw B R W ∧ GvW q w4.heap.size ag cg W := ⟨_, rfl⟩
      have hN0 : A0 (w4.alloc (.cells #[.int .i64 q.client, .int .u64 q.token, .string q.name, .slice ag q.args.length cg] 29)) := by
        rw [hA0]
        obtain ⟨S, hr⟩ := H4.out.2
        have k := (Keep.refl No w4).alloc (.cells #[.int .i64 q.client, .int .u64 q.token, .string q.name, .slice ag q.args.length cg] 29)
        exact ⟨JdW.stay _ _ k H4.out.1, blk_new _ _, S, hr.agree _ k.agreeNo⟩
      have HS0 : RowKit.Hid (Stay A0) := by rw [hA0]; exact JdW.stay.and GvW.stay
      have HU0 : RowKit.Hid (∀ W, A0 W → JdW w q R0 a c (.slice ar raw.length cr) raw B R W ∧ GvW q w4.heap.size ag cg W) := by rw [hA0]; exact fun W h => h
      have HA0 := Lib.hid hN0
      clear hA0 hN0 H4
      generalize (w4.alloc (.cells #[.int .i64 q.client, .int .u64 q.token, .string q.name, .slice ag q.args.length cg] 29)) = ws0 at *
      generalize w4.heap.size = G at *
      obtain ⟨pl1, er1, hp1⟩ : ∃ pl er, judgeL homeL q most = (pl, er) := ⟨_, _, rfl⟩
      obtain ⟨pl2, er2, hp2⟩ : ∃ pl er, acceptL raw most = (pl, er) := ⟨_, _, rfl⟩
      obtain ⟨pl3, er3, hp3⟩ : ∃ pl er, judgeL [] q most = (pl, er) := ⟨_, _, rfl⟩
      have HP := Lib.hid (And.intro hp1 (And.intro hp2 hp3))
      clear hp1 hp2 hp3
      have cG := blk_cell (HU0.out _ HA0.out).2.blk
      have hj1 : Calls Tryz.prog 23 #[.pointer (some ⟨B, 0, none⟩), .agg #[.int .i64 q.client, .int .u64 q.token, .string q.name, .slice ag q.args.length cg], .int .i64 most] ws0 (PV A0 pl1 er1) := by
        obtain ⟨S, hr⟩ := (HU0.out _ HA0.out).2.rd
        exact ((HU0.out _ HA0.out).1.judge (cs := [.int .i64 q.client, .int .u64 q.token, .string q.name, .slice ag q.args.length cg]) hr HH.out.2.1.name most).mono fun e w' hg => givesPl_pv HS0.out HA0.out HP.out.1 hg
      go_wp2_with fail
      refine hj1.mono ?_
      clear hj1 cG
      rintro e wr1 ⟨a1, c1, a2, c2, a3, c3, rfl, HV1⟩
      go_upto_region 8 with fail
      obtain ⟨A1, hA1, hU1, hN1⟩ := plb_mk HS0.out HV1.out
      have HS1 := Lib.hid hA1
      have HU1 := Lib.hid hU1
      have HA1 := Lib.hid hN1
      clear hA1 hU1 hN1 HV1
      generalize (wr1.alloc (.cells #[.int .i64 pl1.client, .int .u64 pl1.token, .string pl1.name, .slice a1 pl1.args.length c1, .int .i64 pl1.how, .slice a2 pl1.reads.length c2, .slice a3 pl1.writes.length c3] 50)) = ws1 at *
      generalize wr1.heap.size = P1 at *
      generalize (Value.slice a1 pl1.args.length c1) = x1 at *
      generalize (Value.slice a2 pl1.reads.length c2) = y1 at *
      generalize (Value.slice a3 pl1.writes.length c3) = z1 at *
      clear a1 c1 a2 c2 a3 c3
      have hJ1 := HU0.out _ (HU1.out _ HA1.out).1
      have hr1 : ∃ m la lc L, DcW w q R0 a c B m R la lc L ws1 := hJ1.1.d
      have cR : ∀ j, ws1.cell? ⟨R0, j, none⟩ = #[.int .i64 q.client, .int .u64 q.token, .string q.name, .slice a q.args.length c][j]? := by obtain ⟨m, la, lc, L, hd⟩ := hr1; exact blk_cell hd.r0
      have hj2 : Calls Tryz.prog 24 #[.pointer (some ⟨R, 0, none⟩), .agg #[.int .i64 q.client, .int .u64 q.token, .string q.name, .slice a q.args.length c], .int .i64 most] ws1 (PV A1 pl1 er1) := by
        obtain ⟨m, la, lc, L, hd⟩ := hr1
        exact (hJ1.1.rjudge (cs := [.int .i64 q.client, .int .u64 q.token, .string q.name, .slice a q.args.length c]) hd.rr HH.out.2.1.name most).mono fun e w' hg => givesPlT_pv HS1.out HA1.out HP.out.1 hg
      clear hJ1 hr1
      go_wp2_with fail
      refine hj2.mono ?_
      clear hj2 cR
      rintro e wr2 ⟨a1, c1, a2, c2, a3, c3, rfl, HV2⟩
      go_upto_region 9 with fail
      obtain ⟨A2, hA2, hU2, hN2⟩ := plb_mk HS1.out HV2.out
      have HS2 := Lib.hid hA2
      have HU2 := Lib.hid hU2
      have HA2 := Lib.hid hN2
      clear hA2 hU2 hN2 HV2
      generalize (wr2.alloc (.cells #[.int .i64 pl1.client, .int .u64 pl1.token, .string pl1.name, .slice a1 pl1.args.length c1, .int .i64 pl1.how, .slice a2 pl1.reads.length c2, .slice a3 pl1.writes.length c3] 50)) = ws2 at *
      generalize wr2.heap.size = P2 at *
      generalize (Value.slice a1 pl1.args.length c1) = x2 at *
      generalize (Value.slice a2 pl1.reads.length c2) = y2 at *
      generalize (Value.slice a3 pl1.writes.length c3) = z2 at *
      clear a1 c1 a2 c2 a3 c3
      have hJ2 := (HU0.out _ (HU1.out _ (HU2.out _ HA2.out).1).1).1
      obtain ⟨a5, c5, w5, hrun, ho5⟩ := clone_bytesApp ws2 _ _ raw hJ2.raw (by have := HH.out.2.2.2.2; omega)
      have HA5 := Lib.hid (HS2.out _ _ ho5.2 HA2.out)
      have hj3 : Calls Tryz.prog 25 #[.pointer (some ⟨B, 0, none⟩), .slice a5 raw.length c5, .int .i64 most] w5 (PV A2 pl2 er2) :=
        ((JdW.stay _ _ ho5.2 hJ2).accept (Own.rd ho5.1) most).mono fun e w' hg => givesPl_pv HS2.out HA5.out HP.out.2.1 hg
      clear ho5 hJ2
      go_wp2_with (at_builtin; refine wpList_app rfl (.tmp 54) (.tmp 55) 25 25 rfl rfl rfl hrun ?_)
      refine hj3.mono ?_
      clear hj3 hrun HA5
      rintro e wr3 ⟨a1, c1, a2, c2, a3, c3, rfl, HV3⟩
      go_upto_region 10 with fail
      obtain ⟨A3, hA3, hU3, hN3⟩ := plb_mk HS2.out HV3.out
      have HS3 := Lib.hid hA3
      have HU3 := Lib.hid hU3
      have HA3 := Lib.hid hN3
      clear hA3 hU3 hN3 HV3
      generalize (wr3.alloc (.cells #[.int .i64 pl2.client, .int .u64 pl2.token, .string pl2.name, .slice a1 pl2.args.length c1, .int .i64 pl2.how, .slice a2 pl2.reads.length c2, .slice a3 pl2.writes.length c3] 50)) = ws3 at *
      generalize wr3.heap.size = P3 at *
      generalize (Value.slice a1 pl2.args.length c1) = x3 at *
      generalize (Value.slice a2 pl2.reads.length c2) = y3 at *
      generalize (Value.slice a3 pl2.writes.length c3) = z3 at *
      clear a1 c1 a2 c2 a3 c3
      have hJ3 := (HU0.out _ (HU1.out _ (HU2.out _ (HU3.out _ HA3.out).1).1).1).1
      have hj4 : Calls Tryz.prog 26 #[.pointer (some ⟨R, 0, none⟩), .slice ar raw.length cr, .int .i64 most] ws3 (PV A3 pl2 er2) :=
        (hJ3.raccept hJ3.raw most).mono fun e w' hg => givesPl_pv HS3.out HA3.out HP.out.2.1 hg
      clear hJ3
      go_wp2_with fail
      refine hj4.mono ?_
      clear hj4
      rintro e wr4 ⟨a1, c1, a2, c2, a3, c3, rfl, HV4⟩
      go_upto_region 11 with fail
      obtain ⟨A4, hA4, hU4, hN4⟩ := plb_mk HS3.out HV4.out
      have HS4 := Lib.hid hA4
      have HU4 := Lib.hid hU4
      have HA4 := Lib.hid hN4
      clear hA4 hU4 hN4 HV4
      generalize (wr4.alloc (.cells #[.int .i64 pl2.client, .int .u64 pl2.token, .string pl2.name, .slice a1 pl2.args.length c1, .int .i64 pl2.how, .slice a2 pl2.reads.length c2, .slice a3 pl2.writes.length c3] 50)) = ws4 at *
      generalize wr4.heap.size = P4 at *
      generalize (Value.slice a1 pl2.args.length c1) = x4 at *
      generalize (Value.slice a2 pl2.reads.length c2) = y4 at *
      generalize (Value.slice a3 pl2.writes.length c3) = z4 at *
      clear a1 c1 a2 c2 a3 c3
      have hJ4 := (HU0.out _ (HU1.out _ (HU2.out _ (HU3.out _ (HU4.out _ HA4.out).1).1).1).1).1
      have hr4 : ∃ m la lc L, DcW w q R0 a c B m R la lc L ws4 := hJ4.d
      have cR : ∀ j, ws4.cell? ⟨R0, j, none⟩ = #[.int .i64 q.client, .int .u64 q.token, .string q.name, .slice a q.args.length c][j]? := by obtain ⟨m, la, lc, L, hd⟩ := hr4; exact blk_cell hd.r0
      have how := (own9_any ws4 _ [.int .i64 q.client, .int .u64 q.token, .string q.name, .slice a q.args.length c] q (by obtain ⟨m, la, lc, L, hd⟩ := hr4; exact hd.rr) HH.out.2.1.args).mono (R' := fun e w4 => ∃ ah ch, e = .returned (.agg #[.int .i64 q.client, .int .u64 q.token, .string q.name, .slice ah q.args.length ch]) ∧ RowKit.Hid (A4 w4 ∧ Tab w4 ∧ ∃ S, Rd requestSh w4 S [.int .i64 q.client, .int .u64 q.token, .string q.name, .slice ah q.args.length ch] q)) (by
        rintro e w4 ⟨ah, ch, rfl, h⟩
        obtain ⟨m, la, lc, L, hd⟩ := hr4
        exact ⟨ah, ch, rfl, HS4.out _ _ h.out.2 HA4.out, hd.tab.keep h.out.2, _, h.out.1⟩)
      clear hJ4 hr4
      go_wp2_with (go_at_call 15; refine how.mono ?_; clear how cR; rintro e w7 ⟨ah, ch, rfl, H7⟩)
      have hj5 : Calls Tryz.prog 23 #[.pointer none, .agg #[.int .i64 q.client, .int .u64 q.token, .string q.name, .slice ah q.args.length ch], .int .i64 most] w7 (PV A4 pl3 er3) := by
        obtain ⟨h1, h2, S, hr⟩ := H7.out
        exact (judge_nil w7 S _ q hr (by have := HH.out.2.1.name; omega) most h2).mono fun e w' hg => givesPl_pv HS4.out h1 HP.out.2.2 hg
      refine hj5.mono ?_
      clear hj5 H7
      rintro e wr5 ⟨a1, c1, a2, c2, a3, c3, rfl, HV5⟩
      go_upto_region 12 with fail
      obtain ⟨A5, hA5, hU5, hN5⟩ := plb_mk HS4.out HV5.out
      have HS5 := Lib.hid hA5
      have HU5 := Lib.hid hU5
      have HA5 := Lib.hid hN5
      clear hA5 hU5 hN5 HV5
      generalize (wr5.alloc (.cells #[.int .i64 pl3.client, .int .u64 pl3.token, .string pl3.name, .slice a1 pl3.args.length c1, .int .i64 pl3.how, .slice a2 pl3.reads.length c2, .slice a3 pl3.writes.length c3] 50)) = ws5 at *
      generalize wr5.heap.size = P5 at *
      generalize (Value.slice a1 pl3.args.length c1) = x5 at *
      generalize (Value.slice a2 pl3.reads.length c2) = y5 at *
      generalize (Value.slice a3 pl3.writes.length c3) = z5 at *
      clear a1 c1 a2 c2 a3 c3
      have hJ5 := (HU0.out _ (HU1.out _ (HU2.out _ (HU3.out _ (HU4.out _ (HU5.out _ HA5.out).1).1).1).1).1).1
      have hr5 : ∃ m la lc L, DcW w q R0 a c B m R la lc L ws5 := hJ5.d
      have cR : ∀ j, ws5.cell? ⟨R0, j, none⟩ = #[.int .i64 q.client, .int .u64 q.token, .string q.name, .slice a q.args.length c][j]? := by obtain ⟨m, la, lc, L, hd⟩ := hr5; exact blk_cell hd.r0
      have hj6 : Calls Tryz.prog 24 #[.pointer none, .agg #[.int .i64 q.client, .int .u64 q.token, .string q.name, .slice a q.args.length c], .int .i64 most] ws5 (PV A5 pl3 er3) := by
        obtain ⟨m, la, lc, L, hd⟩ := hr5
        exact (rJudge_nil ws5 _ _ q hd.rr (by have := HH.out.2.1.name; omega) most).mono fun e w' hg => givesPl_pv HS5.out HA5.out HP.out.2.2 hg
      clear hJ5 hr5
      go_wp2_with fail
      refine hj6.mono ?_
      clear hj6 cR
      rintro e wr6 ⟨a1, c1, a2, c2, a3, c3, rfl, HV6⟩
      go_upto_region 13 with fail
      obtain ⟨A6, hA6, hU6, hN6⟩ := plb_mk HS5.out HV6.out
      have HS6 := Lib.hid hA6
      have HU6 := Lib.hid hU6
      have HA6 := Lib.hid hN6
      clear hA6 hU6 hN6 HV6
      generalize (wr6.alloc (.cells #[.int .i64 pl3.client, .int .u64 pl3.token, .string pl3.name, .slice a1 pl3.args.length c1, .int .i64 pl3.how, .slice a2 pl3.reads.length c2, .slice a3 pl3.writes.length c3] 50)) = ws6 at *
      generalize wr6.heap.size = P6 at *
      generalize (Value.slice a1 pl3.args.length c1) = x6 at *
      generalize (Value.slice a2 pl3.reads.length c2) = y6 at *
      generalize (Value.slice a3 pl3.writes.length c3) = z6 at *
      clear a1 c1 a2 c2 a3 c3
      have h5 := HU6.out _ HA6.out
      have h4 := HU5.out _ h5.1
      have h3 := HU4.out _ h4.1
      have h2 := HU3.out _ h3.1
      have h1 := HU2.out _ h2.1
      have h0 := HU1.out _ h1.1
      have hj := HU0.out _ h0.1
      obtain ⟨m, la, lc, L, hd⟩ := hj.1.d
      have hpa : Calls Tryz.prog 27 #[.agg #[.int .i64 pl1.client, .int .u64 pl1.token, .string pl1.name, x1, .int .i64 pl1.how, y1, z1], .agg #[.int .i64 pl1.client, .int .u64 pl1.token, .string pl1.name, x2, .int .i64 pl1.how, y2, z2]] ws6 fun e w' => e = .returned (.bool true) ∧ RowKit.Hid (Keep No ws6 w') := by
        obtain ⟨S, r1⟩ := h0.2.rd
        obtain ⟨T, r2⟩ := h1.2.rd
        exact (plan_same ws6 S T _ _ pl1 r1 r2).mono (by rintro e w' ⟨rfl, hk⟩; exact ⟨rfl, hk⟩)
      have HPB : RowKit.Hid (∀ W, Keep No ws6 W → Calls Tryz.prog 27 #[.agg #[.int .i64 pl2.client, .int .u64 pl2.token, .string pl2.name, x3, .int .i64 pl2.how, y3, z3], .agg #[.int .i64 pl2.client, .int .u64 pl2.token, .string pl2.name, x4, .int .i64 pl2.how, y4, z4]] W fun e w' => e = .returned (.bool true) ∧ RowKit.Hid (Keep No ws6 w')) := fun W hW => by
        obtain ⟨S, r1⟩ := h2.2.rd
        obtain ⟨T, r2⟩ := h3.2.rd
        exact (plan_same W S T _ _ pl2 (r1.agree planSh hW.agreeNo) (r2.agree planSh hW.agreeNo)).mono (by rintro e w' ⟨rfl, hk⟩; exact ⟨rfl, hW.trans hk⟩)
      have HPC : RowKit.Hid (∀ W, Keep No ws6 W → Calls Tryz.prog 27 #[.agg #[.int .i64 pl3.client, .int .u64 pl3.token, .string pl3.name, x5, .int .i64 pl3.how, y5, z5], .agg #[.int .i64 0, .int .u64 0, .string ⟨#[]⟩, .slice none 0 0, .int .i64 0, .slice none 0 0, .slice none 0 0]] W fun e w' => e = .returned (.bool true) ∧ RowKit.Hid (Keep No ws6 w')) := fun W hW => by
        obtain ⟨S, r1⟩ := h4.2.rd
        have e3 : pl3 = plan0 := by have := judge_none q most; rw [HP.out.2.2] at this; exact this
        have r2 : Rd planSh W No [.int .i64 0, .int .u64 0, .string ⟨#[]⟩, .slice none 0 0, .int .i64 0, .slice none 0 0, .slice none 0 0] pl3 := by
          rw [e3]
          exact plan_mk plan0 (nil_slice _ _ _) (nil_slice _ _ _) (nil_slice _ _ _) (by decide) (by decide) (by rw [maxLen_is]; show (0 : Nat) ≤ _; omega) (by decide)
        exact (plan_same W S No _ _ pl3 (r1.agree planSh hW.agreeNo) r2).mono (by rintro e w' ⟨rfl, hk⟩; exact ⟨rfl, hW.trans hk⟩)
      have HEQ : RowKit.Hid (∀ W, Keep No ws6 W → Calls Tryz.prog 20 #[.agg #[.int .i64 q.client, .int .u64 q.token, .string q.name, .slice ag q.args.length cg], .agg #[.int .i64 q.client, .int .u64 q.token, .string q.name, .slice a q.args.length c]] W fun e w' => e = .returned (.bool true) ∧ RowKit.Hid (Keep No ws6 w')) := fun W hW => by
        obtain ⟨S, r1⟩ := hj.2.rd
        exact (rrqEqual_any W S _ _ _ q q (r1.agree requestSh hW.agreeNo) (hd.rr.agree requestSh hW.agreeNo)).mono (by rintro e w' ⟨rfl, hk⟩; exact ⟨by rw [(Req.eqb_iff _ _).2 rfl], hW.trans hk⟩)
      have HLV : RowKit.Hid (∀ W, Keep No ws6 W → Calls Tryz.prog 13 #[] W fun e w' => e = .returned (.bool true) ∧ RowKit.Hid (Keep No w w')) := fun W hW =>
        (live9_any W (hd.tab.keep hW)).mono (by rintro e w' ⟨rfl, hk⟩; exact ⟨rfl, (hd.keep.trans hW).trans hk⟩)
      have HB := Lib.hid (And.intro h2.2.blk (And.intro h3.2.blk (And.intro h4.2.blk (And.intro hj.2.blk hd.r0))))
      have c1 := blk_cell h0.2.blk
      have c2 := blk_cell h1.2.blk
      clear h5 h4 h3 h2 h1 h0 hj hd HA6 HU6 HU5 HU4 HU3 HU2 HU1 HU0 HS0 HS1 HS2 HS3 HS4 HS5 HS6 HA0 HA1 HA2 HA3 HA4 HA5 HP HH
      go_wp2_with (first
        | (go_at_call 12; refine (num9_w _ _).mono ?_; rintro e w20 ⟨rfl, rfl⟩)
        | (go_at_call 27; refine hpa.mono ?_; clear hpa c1 c2; rintro e w7 ⟨rfl, H7⟩; have c3 := blk_cell (H7.out.blk HB.out.1 (fun x => x)); have c4 := blk_cell (H7.out.blk HB.out.2.1 (fun x => x)))
        | (go_at_call 27; refine (HPB.out _ H7.out).mono ?_; clear HPB c3 c4; rintro e w8 ⟨rfl, H8⟩; have c5 := blk_cell (H8.out.blk HB.out.2.2.1 (fun x => x)))
        | (go_at_call 27; refine (HPC.out _ H8.out).mono ?_; clear HPC c5; rintro e w9 ⟨rfl, H9⟩; have cg := blk_cell (H9.out.blk HB.out.2.2.2.1 (fun x => x)); have cr := blk_cell (H9.out.blk HB.out.2.2.2.2 (fun x => x)))
        | (go_at_call 20; refine (HEQ.out _ H9.out).mono ?_; clear cg cr; rintro e w10 ⟨rfl, H10⟩)
        | (go_at_call 13; refine (HLV.out _ H10.out).mono ?_; rintro e w11 ⟨rfl, H11⟩))
      go_ret
      exact ⟨rfl, H11.out⟩
end Go.Proofs.YtpjcebajkfeacaaGreatDoor
namespace Go.Proofs.YtpjcebajkfeacaaGreatDoor
open Go Go.RowKit Go.Deep
theorem RequestJudges_calls (w : World) (ht : Tab w) (cs : List Value) (q : Req) (hq : Rd requestSh w (Lt w.heap.size) cs q) (bq : requestSh.bulk q ≤ 1048576) (v1 : Value) (x1 : Bytes) (h1 : Rd bytesSh w (Lt w.heap.size) [v1] x1) (b1 : bytesSh.bulk x1 ≤ 1048576) (x2 : Int) (w2 : (Lit.int .i64 x2).wf = true) :
    Calls Tryz.prog 5 #[.agg cs.toArray, v1, .int .i64 x2] w fun e w' => e = .returned (.bool true) ∧ Keep No w w' := by
  obtain ⟨a1, c1, e1, -⟩ := id h1
  obtain ⟨a, c, rfl, -⟩ := req_cells hq
  simp only [List.cons.injEq, and_true] at e1
  subst e1
  exact RequestJudges_main w ht q a c hq (req_small bq) x1 a1 c1 h1 (bytes_len x1 b1) x2
end Go.Proofs.YtpjcebajkfeacaaGreatDoor
