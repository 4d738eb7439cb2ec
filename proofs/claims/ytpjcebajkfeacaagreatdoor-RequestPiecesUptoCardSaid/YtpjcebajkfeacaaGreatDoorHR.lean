/-
  RequestBytes: what the law does.
  RequestBytes, whatever the input.
-/
import Derived.Test.YtpjcebajkfeacaaGreatDoorGA
import Derived.Test.YtpjcebajkfeacaaGreatDoorGB
import Derived.Test.YtpjcebajkfeacaaGreatDoorGC
import Derived.Test.YtpjcebajkfeacaaGreatDoorGD
import Derived.Test.YtpjcebajkfeacaaGreatDoorGF
import Derived.Test.YtpjcebajkfeacaaGreatDoorGJ
import Derived.Test.YtpjcebajkfeacaaGreatDoorGK
import Derived.Test.YtpjcebajkfeacaaGreatDoorGL
import Derived.Test.YtpjcebajkfeacaaGreatDoorGU
import Derived.Test.YtpjcebajkfeacaaGreatDoorGV
import Derived.Test.YtpjcebajkfeacaaGreatDoorGW
import Derived.Test.YtpjcebajkfeacaaGreatDoorGX
import Derived.Test.YtpjcebajkfeacaaGreatDoorHD
import Derived.Test.YtpjcebajkfeacaaGreatDoorHF
import Derived.Test.YtpjcebajkfeacaaGreatDoorHL
import Derived.Test.YtpjcebajkfeacaaGreatDoorHN
import Derived.Test.YtpjcebajkfeacaaGreatDoorHO
import Derived.Test.YtpjcebajkfeacaaGreatDoorHQ
import Derived.WalkKit
import Derived.WalkSpells
import Derived.WalkLawsBesides
import Derived.ProofKit
import Derived.Deep.Slices
import Derived.Deep.AppendSrc
import Derived.Lib.Hide
import Derived.Lib.ItoaNum
import Derived.Lib.Join
import Derived.Still
import Derived.StillTactics
import Derived.Recover
import Derived.Defers
import Derived.Deep.QuietTactic
import Derived.BigQuiet
import Derived.Handy
import Derived.Laws.Bits64b
import Derived.Lib.Zigzag
import Derived.OwnWalk
import Derived.Deep.DeepCutAuto
import Derived.Deep.LoopGhost
import Derived.Lib.Bytealg
import Derived.Laws.Externs
import Derived.Laws.CopyRow
import Derived.Laws.IdiomCopy
import Derived.Maps.OwnSet
import Derived.Maps.RangeWalk
import Derived.Shelf.SortM.Plain
import Derived.Shelf.SortM.SortNone
import Derived.Ground.SlgmProg
import Derived.Maps.OwnOps
import Derived.Shelf.Strconv.Itoa4
import Derived.Shelf.Strings.BuilderK
import Derived.Shelf.Strings.OnBuilder
import Derived.Ground.NamesProg
import Derived.Lib.AppendIntMem
import Derived.Lib.UnsafeStr
import Derived.Deep.WholeRow
import Derived.Maps.Views
namespace Go.Proofs.YtpjcebajkfeacaaGreatDoor
set_option linter.unusedVariables false
set_option linter.unusedSimpArgs false
open Go Go.RowKit Go.Deep

/-- two bytes, in the variadic call's block -/
theorem app_two {w0 w : World} {v : Value} {l : Bytes} (h : OwnB w0 w v l) (x y : Int) (h0 : 0 ≤ x) (h1 : x < 256) (g0 : 0 ≤ y) (g1 : y < 256) (hl : l.length + 2 ≤ 140737488355328) :
    ∃ a c w', (Builtin.append_ #[25, 25] 25 #[v, .slice (some ⟨w.heap.size, 0, none⟩) 2 2]).run Tryz.prog (w.alloc (.cells #[.int .u8 x, .int .u8 y] 5)) = .ok (.slice a (l.length + 2) c) w' ∧ OwnB w0 w' (.slice a (l.length + 2) c) (l ++ [x, y]) :=
  app_src h ((Keep.refl No w).alloc _) (xs := [x, y]) (Src.ofBlock Tryz.underlying25 w.heap.size 2 2 #[.int .u8 x, .int .u8 y] 5 _ (blk_new w _) rfl (fun u hu => by simp at hu; rcases hu with rfl | rfl <;> rfl)) (AllB.cons h0 h1 (AllB.cons g0 g1 .nil)) hl

/-- a request's cells -/
abbrev rqCells (q : Req) (a : Option Addr) (c : Nat) : Array Value := #[.int .i64 q.client, .int .u64 q.token, .string q.name, .slice a q.args.length c]
/-- the request, and the law's own copy of it: their blocks -/
structure RbI (w : World) (q : Req) (R0 G : Nat) (a : Option Addr) (c : Nat) (ag : Option Addr) (cg : Nat) (W : World) : Prop where
  keep : Keep No w W
  tab : Tab W
  r0 : W.heap[R0]? = some (.cells #[.int .i64 q.client, .int .u64 q.token, .string q.name, .slice a q.args.length c] 29 (0, 0))
  g : W.heap[G]? = some (.cells #[.int .i64 q.client, .int .u64 q.token, .string q.name, .slice ag q.args.length cg] 29 (0, 0))
  rr : Rd requestSh W (Lt w.heap.size) [.int .i64 q.client, .int .u64 q.token, .string q.name, .slice a q.args.length c] q
  rg : Rd requestSh W (Fr w.heap.size G) [.int .i64 q.client, .int .u64 q.token, .string q.name, .slice ag q.args.length cg] q
  hR : w.heap.size ≤ R0
  hG : w.heap.size ≤ G
theorem RbI.more {w : World} {q : Req} {R0 G : Nat} {a : Option Addr} {c : Nat} {ag : Option Addr} {cg : Nat} {W W' : World} (h : RbI w q R0 G a c ag cg W) (k : Keep No W W') : RbI w q R0 G a c ag cg W' :=
  ⟨h.keep.trans k, h.tab.keep k, k.blk h.r0 (fun x => x), k.blk h.g (fun x => x), h.rr.agree _ k.agreeNo, h.rg.agree _ k.agreeNo, h.hR, h.hG⟩

/-- a request and its codes are given back, in cells of its own -/
def GivesZ (w : World) (z : Req) (er : Int) (at' : Nat) (e : Ending) (w' : World) : Prop := ∃ az cz, e = .returned (.tuple #[.agg #[.int .i64 z.client, .int .u64 z.token, .string z.name, .slice az z.args.length cz], .int .i64 er, .int .i64 at']) ∧
  RowKit.Hid (Rd requestSh w' (Fr w.heap.size w'.heap.size) [.int .i64 z.client, .int .u64 z.token, .string z.name, .slice az z.args.length cz] z ∧ Keep No w w')
theorem wf_u64q {n : Int} (h0 : 0 ≤ n) (h1 : n < 18446744073709551616) : (Lit.int .u64 n).wf = true := by
  simp [Lit.wf, IntKind.min, IntKind.max, IntKind.signed, IntKind.bits]; omega
theorem num9_eq (w : World) (e : Int) : Calls Tryz.prog 12 #[.int .i64 e] w fun en w' => en = .returned (.int .i64 e) ∧ w = w' :=
  (num9_any w e).mono (by rintro _ _ ⟨rfl, rfl⟩; exact ⟨rfl, rfl⟩)
theorem givesZ {w : World} {b : Bytes} {z : Req} {er : Int} {at' : Nat} (hA : AllB b) (hz : reqGet b = (z, er, at')) {e : Ending} {w' : World} (h : GivesRQ w (reqGet b) e w') : GivesZ w z er at' e w' := by
  have hok := reqGet_ok hA
  rw [hz] at h hok
  obtain ⟨az, nz, cz, rfl, ho, hk⟩ := h
  have hr := Own.rd ho
  obtain rfl : nz = z.args.length := (vals_len hr).1
  exact ⟨az, cz, rfl, ⟨[.int .i64 z.client], _, rfl, ⟨rfl, wf_i64 hok.1.c0 hok.1.c1⟩, [.int .u64 z.token], _, rfl, ⟨rfl, wf_u64q hok.1.t0 hok.1.t1⟩, [.string z.name], _, rfl, ⟨rfl, by have h2 : ByteArray.size z.2.2.1 ≤ 16 := hok.2.1; rw [maxLen_is]; omega⟩, [.slice az z.args.length cz], [], rfl, hr, rfl⟩, hk⟩

/-- and the requests that were read, by the program and by the document: nothing of all that lies in block b -/
structure RbZ (w : World) (q : Req) (R0 G : Nat) (a : Option Addr) (c : Nat) (ag : Option Addr) (cg : Nat) (z : Req) (Q V b : Nat) (az : Option Addr) (cz : Nat) (av : Option Addr) (cv : Nat) (W : World) : Prop where
  i : RbI w q R0 G a c ag cg W
  zq : W.heap[Q]? = some (.cells #[.int .i64 z.client, .int .u64 z.token, .string z.name, .slice az z.args.length cz] 29 (0, 0))
  zv : W.heap[V]? = some (.cells #[.int .i64 z.client, .int .u64 z.token, .string z.name, .slice av z.args.length cv] 29 (0, 0))
  rq : Rd requestSh W (Up (b + 1)) [.int .i64 z.client, .int .u64 z.token, .string z.name, .slice az z.args.length cz] z
  rv : Rd requestSh W (Up (b + 1)) [.int .i64 z.client, .int .u64 z.token, .string z.name, .slice av z.args.length cv] z
  hR : R0 < b
  hG : G < b
  hQ : b < Q
  hV : b < V
theorem RbZ.more {w : World} {q : Req} {R0 G : Nat} {a : Option Addr} {c : Nat} {ag : Option Addr} {cg : Nat} {z : Req} {Q V b : Nat} {az : Option Addr} {cz : Nat} {av : Option Addr} {cv : Nat} {W W' : World} (h : RbZ w q R0 G a c ag cg z Q V b az cz av cv W) (k : Keep No W W') : RbZ w q R0 G a c ag cg z Q V b az cz av cv W' :=
  ⟨h.i.more k, k.blk h.zq (fun x => x), k.blk h.zv (fun x => x), h.rq.agree _ k.agreeNo, h.rv.agree _ k.agreeNo, h.hR, h.hG, h.hQ, h.hV⟩

theorem RbZ.set {w : World} {q : Req} {R0 G : Nat} {a : Option Addr} {c : Nat} {ag : Option Addr} {cg : Nat} {z : Req} {Q V b : Nat} {az : Option Addr} {cz : Nat} {av : Option Addr} {cv : Nat} {W : World} (h : RbZ w q R0 G a c ag cg z Q V b az cz av cv W) (ht : Tab w) (i : Nat) (v : Value) : RbZ w q R0 G a c ag cg z Q V b az cz av cv (W.setCell ⟨b, i, none⟩ v) := by
  obtain ⟨⟨i1, i2, i3, i4, i5, i6, i7, i8⟩, h1, h2, h3, h4, h5, h6, h7, h8⟩ := h
  have hk : Keep No w (W.setCell ⟨b, i, none⟩ v) := i1.setNew (by show w.heap.size ≤ b; omega) v
  exact ⟨⟨hk, ht.keep hk, blk_other i3 (by show ¬ b = R0; omega) v, blk_other i4 (by show ¬ b = G; omega) v, i5.agree _ (agree_set (fun hh => by have : b < w.heap.size := hh; omega) i v), i6.agree _ (agree_set (fun hh => by have := hh.2; omega) i v), i7, i8⟩,
    blk_other h1 (by show ¬ b = Q; omega) v, blk_other h2 (by show ¬ b = V; omega) v, h3.agree _ (agree_set (fun hh => by have : b + 1 ≤ b := hh; omega) i v), h4.agree _ (agree_set (fun hh => by have : b + 1 ≤ b := hh; omega) i v), h5, h6, h7, h8⟩
/-- cells that may be written -/
def Wr (b o n : Nat) (W : World) : Prop := ∀ j, j < n → (∃ v, W.cell? ⟨b, o + j, none⟩ = some v) ∧ W.frozen? ⟨b, o + j, none⟩ = false
theorem Wr.set {b o n : Nat} {W : World} (h : Wr b o n W) (i : Nat) (u : Value) : Wr b o n (W.setCell ⟨b, i, none⟩ u) := fun j hj => by
  obtain ⟨⟨v, hv⟩, hf⟩ := h j hj
  refine ⟨?_, by rw [World.frozen?_setCell]; exact hf⟩
  by_cases e : (⟨b, i, none⟩ : Addr) = ⟨b, o + j, none⟩
  · rw [e]; exact ⟨u, World.cell?_setCell_same W _ u hv⟩
  · exact ⟨v, (World.cell?_setCell_other W _ _ u e).trans hv⟩

set_option maxRecDepth 10000 in
set_option maxHeartbeats 4000000 in
theorem RequestBytes_main (w : World) (ht : Tab w) (a1 a2 : Option Addr) (n1 c1 n2 c2 : Nat) (ahead raw : Bytes) (q : Req) (a : Option Addr) (c : Nat) (hn1 : ahead.length = n1) (hn2 : raw.length = n2) (ha : Rd bytesSh w (Lt w.heap.size) [.slice a1 n1 c1] ahead) (hr : Rd bytesSh w (Lt w.heap.size) [.slice a2 n2 c2] raw)
    (hq : Rd requestSh w (Lt w.heap.size) [.int .i64 q.client, .int .u64 q.token, .string q.name, .slice a q.args.length c] q) (hb : q.Small) (b1 : n1 ≤ 1048576) (b2 : n2 ≤ 1048576) :
    Calls Tryz.prog 4 #[.slice a1 n1 c1, .agg #[.int .i64 q.client, .int .u64 q.token, .string q.name, .slice a q.args.length c], .slice a2 n2 c2] w fun e w' => e = .returned (.bool true) ∧ Keep No w w' := by
  have HH := Lib.hid (And.intro hq (And.intro hb ht))
  have HB := Lib.hid (And.intro hn1 (And.intro hn2 (And.intro ha (And.intro hr (And.intro b1 b2)))))
  clear hq hb ht hn1 hn2 ha hr b1 b2
  go_enter Tryz.func4, Tryz.ntmps4
  go_upto_region 1 with fail
  have x1 := blk_new w (.cells #[.int .i64 q.client, .int .u64 q.token, .string q.name, .slice a q.args.length c] 29)
  have K1 := (Keep.refl No w).alloc (.cells #[.int .i64 q.client, .int .u64 q.token, .string q.name, .slice a q.args.length c] 29)
  generalize (w.alloc (.cells #[.int .i64 q.client, .int .u64 q.token, .string q.name, .slice a q.args.length c] 29)) = w1 at *
  obtain ⟨R0, hR0⟩ : ∃ R0, w.heap.size = R0 := ⟨_, rfl⟩
  rw [hR0] at x1 ⊢
  have HR0 := Lib.hid hR0
  clear hR0
  have hlong := (long9_any w1 _ _ q (HH.out.1.agree _ K1.agreeNo) HH.out.2.1).mono (R' := fun e w2 => ∃ b, e = .returned (.bool b) ∧ RowKit.Hid (Keep No w w2 ∧ w2.heap[R0]? = some (.cells #[.int .i64 q.client, .int .u64 q.token, .string q.name, .slice a q.args.length c] 29 (0, 0)))) (by
    rintro e w2 ⟨b, rfl, hk⟩
    exact ⟨b, rfl, K1.trans hk, hk.blk x1 (fun x => x)⟩)
  have q1 := blk_cell x1
  clear x1 K1
  go_cut [32] (fun t wx => ∃ bad, t = .bool bad ∧ RowKit.Hid (Keep No w wx ∧ wx.heap[R0]? = some (.cells #[.int .i64 q.client, .int .u64 q.token, .string q.name, .slice a q.args.length c] 29 (0, 0))))
  case first =>
    go_wp2_with (go_at_call 14; refine hlong.mono ?_; clear hlong q1; rintro e w2 ⟨b, rfl, H2⟩)
    all_goals
      go_meet
      case rel => exact ⟨_, rfl, H2⟩
  case rest =>
    obtain ⟨bad, rfl, H2⟩ := hcut
    cases bad with
    | true =>
      have hl := (live9_any wc (HH.out.2.2.keep H2.out.1)).mono (R' := fun e w' => e = .returned (.bool true) ∧ RowKit.Hid (Keep No w w')) (by
        rintro e w' ⟨rfl, hk⟩
        exact ⟨rfl, H2.out.1.trans hk⟩)
      go_wp2_with (go_at_call 13; refine hl.mono ?_; clear hl; rintro e w3 ⟨rfl, H3⟩)
      go_ret
      exact ⟨rfl, H3.out⟩
    | false =>
      go_upto_region 3 with fail
      generalize wc = w2 at *
      obtain ⟨a3, c3, w3, hrun3, ho3⟩ := clone_bytesApp w2 _ _ ahead (HB.out.2.2.1.agree _ H2.out.1.agreeNo) (by have := HB.out.1; have := HB.out.2.2.2.2.1; omega)
      obtain ⟨a4, c4, w4, hrun4, ho4⟩ := app_two ho3 9 8 (by omega) (by omega) (by omega) (by omega) (by have := HB.out.1; have := HB.out.2.2.2.2.1; omega)
      rw [HB.out.1] at hrun3 hrun4 ho3 ho4
      have HO4 := Lib.hid ho4
      clear ho3 ho4
      go_upto_region 4 with (at_builtin; first | (refine wpList_app rfl (.tmp 34) (.tmp 35) 25 25 rfl rfl rfl hrun3 ?_; clear hrun3) | (refine wpList_app rfl (.tmp 36) (.tmp 37) 25 25 rfl rfl rfl hrun4 ?_; clear hrun4))
      have H4 : RowKit.Hid (Keep No w w4 ∧ w4.heap[R0]? = some (.cells #[.int .i64 q.client, .int .u64 q.token, .string q.name, .slice a q.args.length c] 29 (0, 0))) := by
        exact ⟨H2.out.1.trans HO4.out.2, HO4.out.2.blk H2.out.2 (fun x => x)⟩
      have q4 := blk_cell H4.out.2
      have how := (own9_any w4 _ _ q (HH.out.1.agree _ H4.out.1.agreeNo) HH.out.2.1.args).mono (R' := fun e w5 => ∃ ag cg, e = .returned (.agg #[.int .i64 q.client, .int .u64 q.token, .string q.name, .slice ag q.args.length cg]) ∧ RowKit.Hid (Rd requestSh w5 (Fr w4.heap.size w5.heap.size) [.int .i64 q.client, .int .u64 q.token, .string q.name, .slice ag q.args.length cg] q ∧ Keep No w4 w5)) (by
        rintro e w5 ⟨ag, cg, rfl, h⟩
        exact ⟨ag, cg, rfl, h⟩)
      go_upto_region 5 with (go_at_call 15; refine how.mono ?_; clear how q4; rintro e w5 ⟨ag, cg, rfl, H5⟩)
      have K6 := (Keep.refl No w5).alloc (.cells #[.int .i64 q.client, .int .u64 q.token, .string q.name, .slice ag q.args.length cg] 29)
      have g6 := blk_new w5 (.cells #[.int .i64 q.client, .int .u64 q.token, .string q.name, .slice ag q.args.length cg] 29)
      generalize (w5.alloc (.cells #[.int .i64 q.client, .int .u64 q.token, .string q.name, .slice ag q.args.length cg] 29)) = w6 at *
      obtain ⟨G, hG⟩ : ∃ G, w5.heap.size = G := ⟨_, rfl⟩
      rw [hG] at g6
      try rw [hG]
      have H6 : RowKit.Hid (RbI w q R0 G a c ag cg w6 ∧ Keep No w4 w6 ∧ w4.heap.size ≤ G) := by
        have k56 := H5.out.2.trans K6
        have hs1 := H4.out.1.size
        have hs2 := H5.out.2.size
        have hr := HR0.out
        exact ⟨⟨H4.out.1.trans k56, HH.out.2.2.keep (H4.out.1.trans k56), k56.blk H4.out.2 (fun x => x), g6, HH.out.1.agree _ (H4.out.1.trans k56).agreeNo, (H5.out.1.mono _ fun k _ hk => ⟨Nat.le_trans hs1 hk.1, by have := hk.2; omega⟩).agree _ K6.agreeNo, by omega, by omega⟩, k56, by omega⟩
      have hcap : n1 ≤ c4 ∧ ∃ b4 o4, a4 = some ⟨b4, o4, none⟩ ∧ w4.cell? ⟨b4, o4 + n1, none⟩ = some (.int .u8 9) ∧ b4 < w4.heap.size := by
        obtain ⟨av, cv, hv, hle, hmax, hnil, hel⟩ := bytes_at HO4.out.rd
        simp only [Value.slice.injEq] at hv
        obtain ⟨rfl, h8, rfl⟩ := hv
        have hlen : (ahead ++ [(9 : Int), 8]).length = n1 + 2 := by rw [List.length_append, HB.out.1]; rfl
        obtain ⟨b, off, h1, h2, h3, h4, h5⟩ := hel n1 (by omega)
        refine ⟨by omega, b, off, h1, ?_, h3⟩
        have e : (ahead ++ [(9 : Int), 8])[n1]'(by omega) = 9 := by
          rw [List.getElem_append_right (by rw [HB.out.1]; omega)]
          simp [HB.out.1]
        rw [e] at h4
        exact h4
      obtain ⟨hc4, b4, o4, rfl, hnine, hb4⟩ := hcap
      have HN := Lib.hid (And.intro hnine hb4)
      clear H4 H5 K6 g6 hG hnine hb4
      have i0 : (n1 : Int) ≤ (c4 : Int) := by omega
      have i1 : (0 : Int) ≤ (n1 : Int) := by omega
      have kd6 : Keep No w6 w6.drew := (Keep.refl No w6).drew
      have H7 := Lib.hid (And.intro (H6.out.1.more kd6) (And.intro (H6.out.2.1.trans kd6) H6.out.2.2))
      have g7 := blk_cell H7.out.1.g
      have hput := (rqPut_any w6.drew _ _ (.slice (some ⟨b4, o4, none⟩) n1 c4) ahead (rd_front (HO4.out.rd.agree _ H7.out.2.1.agreeNo) HB.out.1) (by have := HB.out.1; have := HB.out.2.2.2.2.1; omega) _ q H7.out.1.rg (by have := HH.out.2.1.name; omega)).mono (R' := fun e w8 => ∃ a n k, e = .returned (.tuple #[.slice a n k, .int .i64 q.check]) ∧ RowKit.Hid (OwnB w6.drew w8 (.slice a n k) (if q.check = 0 then ahead ++ q.bytes else []))) (by
        rintro e w8 ⟨a, n, k, rfl, ho⟩
        exact ⟨a, n, k, rfl, ho⟩)
      refine wp_region_canw [0, 1, 2, 3, 4, 5, 6, 7, 8, 9, 10] [5] [] (by kernel_rfl) (by kernel_rfl) (by kernel_rfl) (by kernel_rfl) (by intro c a d v w h; cases d <;> exact h) ?_
      generalize w6.drew = w7 at *
      iterate 5 (refine canw_sil rfl rfl (fun K hK => ?_); go_simp; refine hK _ ?_; clear hK K)
      refine canw_loud [] rfl rfl rfl (fun K hK => ?_)
      go_wp2_with (go_at_call 16; refine hput.mono ?_; clear hput; rintro e w8 ⟨a8, n8, k8, rfl, HO8⟩)
      refine Mid.normal (hK _ _ stabs_nil ?_)
      clear hK K
      iterate 5 (refine canw_sil rfl rfl (fun K hK => ?_); go_simp; refine hK _ ?_; clear hK K)
      refine canw_nil ?_
      have H8 := Lib.hid (And.intro (H7.out.1.more HO8.out.2) (And.intro (H7.out.2.1.trans HO8.out.2) H7.out.2.2))
      clear g7 H6 H7 kd6 i0 i1
      have q8 := blk_cell H8.out.1.r0
      have hput := (rrqPut_any w8 _ _ (.slice a1 n1 c1) ahead (HB.out.2.2.1.agree _ H8.out.1.keep.agreeNo) (by have := HB.out.1; have := HB.out.2.2.2.2.1; omega) _ q H8.out.1.rr (by have := HH.out.2.1.name; omega)).mono (R' := fun e w9 => ∃ a n k, e = .returned (.tuple #[.slice a n k, .int .i64 q.check]) ∧ RowKit.Hid (OwnB w8 w9 (.slice a n k) (if q.check = 0 then ahead ++ q.bytes else []))) (by
        rintro e w9 ⟨a, n, k, rfl, ho⟩
        exact ⟨a, n, k, rfl, ho⟩)
      go_upto_region 7 with (go_at_call 17; refine hput.mono ?_; clear hput q8; rintro e w9 ⟨a9, n9, k9, rfl, HO9⟩)
      have H9 := Lib.hid (And.intro (H8.out.1.more HO9.out.2) (H8.out.2.1.trans HO9.out.2))
      have HO8b := Lib.hid (HO8.out.more HO9.out.2)
      clear H8 HO8
      obtain ⟨z, er, at', hz⟩ : ∃ z er at', reqGet raw = (z, er, at') := ⟨_, _, _, rfl⟩
      have hA := bytes_all HB.out.2.2.2.1
      have hG1 : RowKit.Hid (∀ W S v, Rd bytesSh W S [v] raw → Calls Tryz.prog 18 #[v] W (GivesZ W z er at')) := fun W S v h => (rqGet_any W S v raw h).mono fun e w' h => givesZ hA hz h
      have hG2 : RowKit.Hid (∀ W S v, Rd bytesSh W S [v] raw → Calls Tryz.prog 19 #[v] W (GivesZ W z er at')) := fun W S v h => (rrqGet_any W S v raw h).mono fun e w' h => by
        rw [reqGetR_eq] at h
        exact givesZ hA hz h
      clear hz hA
      obtain ⟨a10, c10, w10, hrun3, ho3⟩ := clone_bytesApp w9 _ _ raw (HB.out.2.2.2.1.agree _ H9.out.1.keep.agreeNo) (by have := HB.out.2.1; have := HB.out.2.2.2.2.2; omega)
      obtain ⟨a11, c11, w11, hrun4, ho4⟩ := app_two ho3 9 8 (by omega) (by omega) (by omega) (by omega) (by have := HB.out.2.1; have := HB.out.2.2.2.2.2; omega)
      rw [HB.out.2.1] at hrun3 hrun4 ho3 ho4
      have HO11 := Lib.hid ho4
      clear ho3 ho4
      go_upto_region 8 with (at_builtin; first | (refine wpList_app rfl (.tmp 56) (.tmp 57) 25 25 rfl rfl rfl hrun3 ?_; clear hrun3) | (refine wpList_app rfl (.tmp 58) (.tmp 59) 25 25 rfl rfl rfl hrun4 ?_; clear hrun4))
      have hcap : n2 ≤ c11 ∧ ∃ b11 o11, a11 = some ⟨b11, o11, none⟩ ∧ w9.heap.size ≤ b11 ∧ b11 < w11.heap.size := by
        obtain ⟨av, cv, hv, hle, hmax, hnil, hel⟩ := bytes_at HO11.out.rd
        simp only [Value.slice.injEq] at hv
        obtain ⟨rfl, h8, rfl⟩ := hv
        have hlen : (raw ++ [(9 : Int), 8]).length = n2 + 2 := by rw [List.length_append, HB.out.2.1]; rfl
        obtain ⟨b, off, h1, h2, h3, h4, h5⟩ := hel n2 (by omega)
        exact ⟨by omega, b, off, h1, h2.1, h2.2⟩
      obtain ⟨hc11, b11, o11, rfl, hb11, hb11'⟩ := hcap
      have H11 := Lib.hid (And.intro (H9.out.1.more HO11.out.2) (And.intro (H9.out.2.trans HO11.out.2) (And.intro hb11 (And.intro hb11' (And.intro (show R0 < b11 by have := blk_lt H9.out.1.r0; omega) (show G < b11 by have := blk_lt H9.out.1.g; omega))))))
      have HO8c := Lib.hid (HO8b.out.more HO11.out.2)
      have HO9b := Lib.hid (HO9.out.more HO11.out.2)
      clear H9 HO8b HO9 hb11 hb11'
      have i0 : (n2 : Int) ≤ (c11 : Int) := by omega
      have i1 : (0 : Int) ≤ (n2 : Int) := by omega
      have hget := hG1.out w11 _ (.slice (some ⟨b11, o11, none⟩) n2 c11) (rd_front HO11.out.rd HB.out.2.1)
      clear hG1
      go_upto_region 9 with (go_at_call 18; refine hget.mono ?_; clear hget; rintro e w12 ⟨az, cz, rfl, H12⟩)
      have K13 := (Keep.refl No w12).alloc (.cells #[.int .i64 z.client, .int .u64 z.token, .string z.name, .slice az z.args.length cz] 29)
      have z13 := blk_new w12 (.cells #[.int .i64 z.client, .int .u64 z.token, .string z.name, .slice az z.args.length cz] 29)
      generalize (w12.alloc (.cells #[.int .i64 z.client, .int .u64 z.token, .string z.name, .slice az z.args.length cz] 29)) = w13 at *
      obtain ⟨Q, hQ⟩ : ∃ Q, w12.heap.size = Q := ⟨_, rfl⟩
      rw [hQ] at z13
      try rw [hQ]
      have k1113 := H12.out.2.trans K13
      have H13 := Lib.hid (And.intro (H11.out.1.more k1113) (And.intro z13 (And.intro ((H12.out.1.mono requestSh fun k _ hk => (show b11 + 1 ≤ k by have := H11.out.2.2.2.1; have := hk.1; omega)).agree (S := Up (b11 + 1)) _ K13.agreeNo) (And.intro (show b11 < Q by have := H11.out.2.2.2.1; have := H12.out.2.size; omega) (And.intro H11.out.2.2.2.2.1 H11.out.2.2.2.2.2)))))
      have HK1113 := Lib.hid k1113
      clear H12 K13 z13 hQ k1113 i0 i1
      have hget := hG2.out w13 _ (.slice a2 n2 c2) (HB.out.2.2.2.1.agree _ H13.out.1.keep.agreeNo)
      clear hG2
      go_upto_region 10 with (go_at_call 19; refine hget.mono ?_; clear hget; rintro e w14 ⟨av, cv, rfl, H14⟩)
      have K15 := (Keep.refl No w14).alloc (.cells #[.int .i64 z.client, .int .u64 z.token, .string z.name, .slice av z.args.length cv] 29)
      have z15 := blk_new w14 (.cells #[.int .i64 z.client, .int .u64 z.token, .string z.name, .slice av z.args.length cv] 29)
      generalize (w14.alloc (.cells #[.int .i64 z.client, .int .u64 z.token, .string z.name, .slice av z.args.length cv] 29)) = w15 at *
      obtain ⟨V, hV⟩ : ∃ V, w14.heap.size = V := ⟨_, rfl⟩
      rw [hV] at z15
      try rw [hV]
      have k1315 := H14.out.2.trans K15
      have HZ : RowKit.Hid (RbZ w q R0 G a c ag cg z Q V b11 az cz av cv w15 ∧ Keep No w11 w15) := by
        obtain ⟨hi, hz, hrz, hbQ, hRb, hGb⟩ := H13.out
        have h1 := blk_lt hz
        have h2 := H14.out.2.size
        exact ⟨⟨hi.more k1315, k1315.blk hz (fun x => x), z15, hrz.agree _ k1315.agreeNo, (H14.out.1.mono requestSh fun k _ hk => (show b11 + 1 ≤ k by have := hk.1; omega)).agree (S := Up (b11 + 1)) _ K15.agreeNo, hRb, hGb, hbQ, by omega⟩, HK1113.out.trans k1315⟩
      have HN15 : RowKit.Hid (w15.cell? ⟨b4, o4 + n1, none⟩ = some (.int .u8 9)) := by
        have k415 := H11.out.2.1.trans HZ.out.2
        rw [k415.cell HN.out.2 (fun x => x)]
        exact HN.out.1
      have HS1 := Lib.hid (HO8c.out.more HZ.out.2)
      have HS2 := Lib.hid (HO9b.out.more HZ.out.2)
      have HS3 := Lib.hid (HO11.out.more HZ.out.2)
      clear H13 H14 K15 z15 hV k1315 HK1113 HO8c HO9b H11 HN
      have kd15 : Keep No w15 w15.drew := (Keep.refl No w15).drew
      have HZ16 := Lib.hid (HZ.out.1.more kd15)
      have e1 := run_string_back (P := Tryz.prog) 25 9 5 a8 k8 n8 Tryz.underlying25 Tryz.underlying5 Tryz.underlying9 (HS1.out.more kd15).rd
      have e2 := run_string_back (P := Tryz.prog) 25 9 5 a9 k9 n9 Tryz.underlying25 Tryz.underlying5 Tryz.underlying9 (HS2.out.more kd15).rd
      generalize textOf (if q.check = 0 then ahead ++ q.bytes else []) = tX at *
      have z16 := blk_cell HZ16.out.zq
      have v16 := blk_cell HZ16.out.zv
      have HKD := Lib.hid kd15
      clear kd15
      refine wp_region_canw [0, 2, 1, 3, 4, 5, 6, 7, 8, 9, 10, 11, 12, 14, 13, 15, 16, 17, 18, 19, 20, 21, 22, 23, 24, 25, 26, 27, 28, 29, 30, 31, 32, 33, 34, 35, 36, 37, 38, 39, 40, 41, 42, 43, 44, 45, 46, 47, 48, 49, 50, 51, 52, 54, 55, 53, 56, 57, 58] [1, 13, 25, 31, 53, 56] [(2, 1), (14, 13), (54, 53), (55, 53)] (by kernel_rfl) (by kernel_rfl) (by kernel_rfl) (by kernel_rfl) (by intro c a d v w h; cases d <;> exact h) ?_
      generalize w15.drew = w16 at *
      iterate 2 (refine canw_sil rfl rfl (fun K hK => ?_); go_simp; refine hK _ ?_; clear hK K)
      refine canw_loud [2] rfl rfl rfl (fun K hK => ?_)
      go_wp2_with (go_at_call 12; refine (num9_eq _ _).mono ?_; rintro e w20 ⟨rfl, rfl⟩)
      refine Mid.normal (hK _ _ ?_ ?_)
      · simp only [List.forall_mem_cons]
        refine ⟨?_, stabs_nil⟩ <;> exact stab_of rfl (fun K hK => by go_simp; exact hK)
      clear hK K
      iterate 11 (refine canw_sil rfl rfl (fun K hK => ?_); go_simp; refine hK _ ?_; clear hK K)
      clear e1 e2
      refine canw_loud [14] rfl rfl rfl (fun K hK => ?_)
      go_wp2_with (go_at_call 12; refine (num9_eq _ _).mono ?_; rintro e w20 ⟨rfl, rfl⟩)
      refine Mid.normal (hK _ _ ?_ ?_)
      · simp only [List.forall_mem_cons]
        refine ⟨?_, stabs_nil⟩ <;> exact stab_of rfl (fun K hK => by go_simp; exact hK)
      clear hK K
      iterate 10 (refine canw_sil rfl rfl (fun K hK => ?_); go_simp; refine hK _ ?_; clear hK K)
      have hzz : z.eqb z = true := (Req.eqb_iff z z).2 rfl
      have hqq : q.eqb q = true := (Req.eqb_iff q q).2 rfl
      have heq := (rrqEqual_any w16 _ _ _ _ z z HZ16.out.rq HZ16.out.rv).mono (R' := fun e w17 => e = .returned (.bool true) ∧ RowKit.Hid (RbZ w q R0 G a c ag cg z Q V b11 az cz av cv w17 ∧ Keep No w16 w17)) (by
        rintro e w17 ⟨rfl, hk⟩
        exact ⟨by rw [hzz], HZ16.out.more hk, hk⟩)
      refine canw_loud [] rfl rfl rfl (fun K hK => ?_)
      go_wp2_with (go_at_call 20; refine heq.mono ?_; clear heq z16 v16; rintro e w17 ⟨rfl, HZ17⟩)
      refine Mid.normal (hK _ _ stabs_nil ?_)
      clear hK K
      have g17 := blk_cell HZ17.out.1.i.g
      have r17 := blk_cell HZ17.out.1.i.r0
      iterate 5 (refine canw_sil rfl rfl (fun K hK => ?_); go_simp; refine hK _ ?_; clear hK K)
      have heq := (rrqEqual_any w17 _ _ _ _ q q HZ17.out.1.i.rg HZ17.out.1.i.rr).mono (R' := fun e w18 => e = .returned (.bool true) ∧ RowKit.Hid (RbZ w q R0 G a c ag cg z Q V b11 az cz av cv w18 ∧ Keep No w16 w18)) (by
        rintro e w18 ⟨rfl, hk⟩
        exact ⟨by rw [hqq], HZ17.out.1.more hk, HZ17.out.2.trans hk⟩)
      refine canw_loud [] rfl rfl rfl (fun K hK => ?_)
      go_wp2_with (go_at_call 20; refine heq.mono ?_; clear heq g17 r17; rintro e w18 ⟨rfl, HZ18⟩)
      refine Mid.normal (hK _ _ stabs_nil ?_)
      clear hK K
      have k1518 := HKD.out.trans HZ18.out.2
      have H9c : w18.cell? ⟨b4, o4 + n1, none⟩ = some (.int .u8 9) := by
        rw [k1518.cell (World.block_lt_of_cell? _ _ HN15.out) (fun x => x)]
        exact HN15.out
      have j4 : (0 : Int) ≤ (n1 : Int) := by omega
      have j5 : (n1 : Int) < (n1 : Int) + 2 := by omega
      have HK18 := Lib.hid k1518
      clear k1518
      have g18 := blk_cell HZ18.out.1.i.r0
      have z18 := blk_cell HZ18.out.1.zq
      have v18 := blk_cell HZ18.out.1.zv
      iterate 11 (refine canw_sil rfl rfl (fun K hK => ?_); go_simp; refine hK _ ?_; clear hK K)
      have HA9 : RowKit.Hid (w18.cell? ⟨b11, o11 + n2, none⟩ = some (.int .u8 9)) := by
        obtain ⟨av, cv', hv, hle, hmax, hnil, hel⟩ := bytes_at (HS3.out.more HK18.out).rd
        simp only [Value.slice.injEq] at hv
        obtain ⟨hb1, h8, -⟩ := hv
        have hlen : (raw ++ [(9 : Int), 8]).length = n2 + 2 := by rw [List.length_append, HB.out.2.1]; rfl
        obtain ⟨b, off, h1, h2, h3, h4, h5⟩ := hel n2 (by omega)
        rw [← hb1] at h1
        simp only [Option.some.injEq, Addr.mk.injEq, and_true] at h1
        obtain ⟨rfl, rfl⟩ := h1
        have e : (raw ++ [(9 : Int), 8])[n2]'(by omega) = 9 := by
          rw [List.getElem_append_right (by rw [HB.out.2.1]; omega)]
          simp [HB.out.2.1]
        rw [e] at h4
        exact h4
      have a9c := HA9.out
      have j6 : (0 : Int) ≤ (n2 : Int) := by omega
      have j7 : (n2 : Int) < (n2 : Int) + 2 := by omega
      iterate 12 (refine canw_sil rfl rfl (fun K hK => ?_); go_simp; refine hK _ ?_; clear hK K)
      clear H9c a9c HA9 j4 j5 j6 j7 g18 z18 v18
      obtain ⟨be, hbe⟩ : ∃ be, z.eqb q = be := ⟨_, rfl⟩
      have heq := (rqEqual_any w18 _ _ _ _ z q HZ18.out.1.rq HZ18.out.1.i.rr).mono (R' := fun e w19 => e = .returned (.bool be) ∧ w19.heap[V]? = some (.cells #[.int .i64 z.client, .int .u64 z.token, .string z.name, .slice av z.args.length cv] 29 (0, 0)) ∧ w19.heap[R0]? = some (.cells #[.int .i64 q.client, .int .u64 q.token, .string q.name, .slice a q.args.length c] 29 (0, 0)) ∧ RowKit.Hid (RbZ w q R0 G a c ag cg z Q V b11 az cz av cv w19 ∧ Keep No w16 w19)) (by
        rintro e w19 ⟨rfl, hk⟩
        have h := HZ18.out.1.more hk
        exact ⟨by rw [hbe], h.zv, h.i.r0, h, HZ18.out.2.trans hk⟩)
      refine canw_loud [54, 55] rfl rfl rfl (fun K hK => ?_)
      go_wp2_with (go_at_call 21; refine heq.mono ?_; clear heq; rintro e w19 ⟨rfl, xv, xr, HZ19⟩)
      have v19 := blk_cell xv
      have g19 := blk_cell xr
      refine Mid.normal (hK _ _ ?_ ?_)
      · simp only [List.forall_mem_cons]
        refine ⟨?_, ?_, stabs_nil⟩ <;> exact stab_of rfl (fun K hK => by go_simp; exact hK)
      clear hK K v19 g19 xv xr
      have heq := (rrqEqual_any w19 _ _ _ _ z q HZ19.out.1.rv HZ19.out.1.i.rr).mono (R' := fun e w20 => e = .returned (.bool be) ∧ RowKit.Hid (RbZ w q R0 G a c ag cg z Q V b11 az cz av cv w20 ∧ Keep No w16 w20)) (by
        rintro e w20 ⟨rfl, hk⟩
        exact ⟨by rw [hbe], HZ19.out.1.more hk, HZ19.out.2.trans hk⟩)
      refine canw_loud [] rfl rfl rfl (fun K hK => ?_)
      go_wp2_with (go_at_call 20; refine heq.mono ?_; clear heq; rintro e w20 ⟨rfl, HZ20⟩)
      refine Mid.normal (hK _ _ stabs_nil ?_)
      clear hK K
      clear hbe
      iterate 2 (refine canw_sil rfl rfl (fun K hK => ?_); go_simp; refine hK _ ?_; clear hK K)
      refine canw_nil ?_
      have HW : RowKit.Hid (RbZ w q R0 G a c ag cg z Q V b11 az cz av cv w20 ∧ Wr b11 o11 (n2 + 2) w20) := by
        refine ⟨HZ20.out.1, fun j hj => ?_⟩
        obtain ⟨av, cv', hv, hle, hmax, hnil, hel⟩ := bytes_at (HS3.out.more (HKD.out.trans HZ20.out.2)).rd
        simp only [Value.slice.injEq] at hv
        obtain ⟨hb1, h8, -⟩ := hv
        obtain ⟨b, off, h1, h2, h3, h4, h5⟩ := hel j (by omega)
        rw [← hb1] at h1
        simp only [Option.some.injEq, Addr.mk.injEq, and_true] at h1
        obtain ⟨rfl, rfl⟩ := h1
        exact ⟨⟨_, h4⟩, h5.1⟩
      clear HZ20 HZ19 HZ18 HZ17 HZ16 HS1 HS2 HS3 HK18 HKD HZ HN15 hzz hqq
      go_wp2_with fail
      go_loopg [20] (n2 + 2) (fun g i wx => ∃ k : Nat, k ≤ n2 + 2 ∧ g = n2 + 2 - k ∧ i = .int .i64 k ∧ RowKit.Hid (RbZ w q R0 G a c ag cg z Q V b11 az cz av cv wx ∧ Wr b11 o11 (n2 + 2) wx))
      case atStart => exact ⟨0, by omega, by omega, rfl, HW.out⟩
      case round =>
        obtain ⟨k, hk, rfl, rfl, HR⟩ := hrel
        clear HW
        by_cases hlt : k < n2 + 2
        · obtain ⟨⟨v, hv⟩, hf⟩ := HR.out.2 k hlt
          have j0 : (0 : Int) ≤ (k : Int) := by omega
          have j1 : (k : Int) < (n2 : Int) + 2 := by omega
          have j3 : (k : Int) ≤ 1048577 := by have := HB.out.2.2.2.2.2; omega
          have HS := Lib.hid (And.intro hlt (And.intro (HR.out.1.set HH.out.2.2 (o11 + k) (.int .u8 238)) (HR.out.2.set (o11 + k) (.int .u8 238))))
          clear HR hk hlt
          go_wp2_with fail
          go_roundg (n2 + 2 - (k + 1))
          case measure => have := HS.out.1; omega
          case rel => exact ⟨k + 1, HS.out.1, rfl, by simp, HS.out.2⟩
        · have j1 : ¬ (k : Int) < (n2 : Int) + 2 := by omega
          clear hk hlt
          go_upto_region 16 with fail
          have kd : Keep No wr wr.drew := (Keep.refl No wr).drew
          have HZ := Lib.hid (HR.out.1.more kd)
          clear HR kd
          have z20 := blk_cell HZ.out.zq
          have v20 := blk_cell HZ.out.zv
          refine wp_region_canw [0, 1, 2, 3, 4, 5, 6, 7, 8, 9, 10, 11, 12] [2, 6, 7, 10] [(4, 6)] (by kernel_rfl) (by kernel_rfl) (by kernel_rfl) (by kernel_rfl) (by intro c a d v w h; cases d <;> exact h) ?_
          generalize wr.drew = w21 at *
          have hzz : z.eqb z = true := (Req.eqb_iff z z).2 rfl
          have hqq : q.eqb q = true := (Req.eqb_iff q q).2 rfl
          have heq := (rrqEqual_any w21 _ _ _ _ z z HZ.out.rq HZ.out.rv).mono (R' := fun e w22 => e = .returned (.bool true) ∧ RowKit.Hid (RbI w q R0 G a c ag cg w22)) (by
            rintro e w22 ⟨rfl, hk⟩
            exact ⟨by rw [hzz], HZ.out.i.more hk⟩)
          iterate 2 (refine canw_sil rfl rfl (fun K hK => ?_); go_simp; refine hK _ ?_; clear hK K)
          refine canw_loud [] rfl rfl rfl (fun K hK => ?_)
          go_wp2_with (go_at_call 20; refine heq.mono ?_; clear heq z20 v20; rintro e w22 ⟨rfl, HI⟩)
          refine Mid.normal (hK _ _ stabs_nil ?_)
          clear hK K
          have g22 := blk_cell HI.out.g
          have r22 := blk_cell HI.out.r0
          iterate 3 (refine canw_sil rfl rfl (fun K hK => ?_); go_simp; refine hK _ ?_; clear hK K)
          have how := (own9_any w22 _ _ q HI.out.rr HH.out.2.1.args).mono (R' := fun e w23 => ∃ ao co, e = .returned (.agg #[.int .i64 q.client, .int .u64 q.token, .string q.name, .slice ao q.args.length co]) ∧ w23.heap[G]? = some (.cells #[.int .i64 q.client, .int .u64 q.token, .string q.name, .slice ag q.args.length cg] 29 (0, 0)) ∧ RowKit.Hid (Rd requestSh w23 (Fr w22.heap.size w23.heap.size) [.int .i64 q.client, .int .u64 q.token, .string q.name, .slice ao q.args.length co] q ∧ RbI w q R0 G a c ag cg w23)) (by
            rintro e w23 ⟨ao, co, rfl, h⟩
            have hi := HI.out.more h.out.2
            exact ⟨ao, co, rfl, hi.g, h.out.1, hi⟩)
          refine canw_loud [4] rfl rfl rfl (fun K hK => ?_)
          go_wp2_with (go_at_call 15; refine how.mono ?_; clear how g22 r22; rintro e w23 ⟨ao, co, rfl, xg, HO⟩)
          have g23 := blk_cell xg
          refine Mid.normal (hK _ _ ?_ ?_)
          · simp only [List.forall_mem_cons]
            refine ⟨?_, stabs_nil⟩ <;> exact stab_of rfl (fun K hK => by go_simp; exact hK)
          clear hK K g23 xg
          have heq := (rqEqual_any w23 _ _ _ _ q q HO.out.2.rg HO.out.1).mono (R' := fun e w24 => e = .returned (.bool true) ∧ RowKit.Hid (RbI w q R0 G a c ag cg w24)) (by
            rintro e w24 ⟨rfl, hk⟩
            exact ⟨by rw [hqq], HO.out.2.more hk⟩)
          refine canw_loud [] rfl rfl rfl (fun K hK => ?_)
          go_wp2_with (go_at_call 21; refine heq.mono ?_; clear heq HO; rintro e w24 ⟨rfl, HI24⟩)
          refine Mid.normal (hK _ _ stabs_nil ?_)
          clear hK K
          iterate 2 (refine canw_sil rfl rfl (fun K hK => ?_); go_simp; refine hK _ ?_; clear hK K)
          have hl := (live9_any w24 HI24.out.tab).mono (R' := fun e w' => e = .returned (.bool true) ∧ RowKit.Hid (Keep No w w')) (by
            rintro e w' ⟨rfl, hk⟩
            exact ⟨rfl, HI24.out.keep.trans hk⟩)
          refine canw_loud [] rfl rfl rfl (fun K hK => ?_)
          go_wp2_with (go_at_call 13; refine hl.mono ?_; clear hl; rintro e w25 ⟨rfl, HL⟩)
          refine Mid.normal (hK _ _ stabs_nil ?_)
          clear hK K
          iterate 2 (refine canw_sil rfl rfl (fun K hK => ?_); go_simp; refine hK _ ?_; clear hK K)
          refine canw_nil ?_
          go_wp2_with fail
          go_ret
          exact ⟨rfl, HL.out⟩
end Go.Proofs.YtpjcebajkfeacaaGreatDoor

namespace Go.Proofs.YtpjcebajkfeacaaGreatDoor
set_option linter.unusedVariables false
set_option linter.unusedSimpArgs false
open Go Go.RowKit Go.Deep

/-- what a request's bulk bounds -/
theorem val_bulk (v : Val) : v.text.size ≤ valueSh.bulk v := by
  have e : valueSh.bulk v = (1 + (1 + ((v.text.size + 1) + 0))) + 1 := rfl
  omega
theorem vals_bulk : ∀ (l : List Val), l.length ≤ (l.map valueSh.bulk).sum ∧ ∀ i (h : i < l.length), l[i].text.size ≤ (l.map valueSh.bulk).sum
  | [] => ⟨Nat.le_refl _, fun i h => absurd h (by simp)⟩
  | v :: l => by
    obtain ⟨h1, h2⟩ := vals_bulk l
    have e : valueSh.bulk v = (1 + (1 + ((v.text.size + 1) + 0))) + 1 := rfl
    simp only [List.map_cons, List.sum_cons, List.length_cons]
    refine ⟨by omega, fun i hi => ?_⟩
    cases i with
    | zero => show v.text.size ≤ _; omega
    | succ i => have := h2 i (by omega); simp only [List.getElem_cons_succ]; omega
theorem req_small {q : Req} (h : requestSh.bulk q ≤ 1048576) : q.Small := by
  have e : requestSh.bulk q = (1 + (1 + ((q.name.size + 1) + (((q.args.map valueSh.bulk).sum + 1) + 0)))) + 1 := rfl
  obtain ⟨h1, h2⟩ := vals_bulk q.args
  exact ⟨by omega, by omega, fun i hi => by have := h2 i hi; omega⟩
theorem bytes_len (l : Bytes) (h : bytesSh.bulk l ≤ 1048576) : l.length ≤ 1048576 := by
  have e : bytesSh.bulk l = (l.map (Sh.int .u8).bulk).sum + 1 := rfl
  have : ∀ l : Bytes, (l.map (Sh.int .u8).bulk).sum = l.length := fun l => by
    induction l with
    | nil => rfl
    | cons x l ih => simp only [List.map_cons, List.sum_cons, List.length_cons, ih]; show 1 + _ = _; omega
  rw [e, this] at h
  omega

theorem RequestBytes_calls (w : World) (ht : Tab w) (v0 : Value) (x0 : Bytes) (h0 : Rd bytesSh w (Lt w.heap.size) [v0] x0) (b0 : bytesSh.bulk x0 ≤ 1048576) (cs : List Value) (q : Req) (hq : Rd requestSh w (Lt w.heap.size) cs q) (bq : requestSh.bulk q ≤ 1048576)
    (v2 : Value) (x2 : Bytes) (h2 : Rd bytesSh w (Lt w.heap.size) [v2] x2) (b2 : bytesSh.bulk x2 ≤ 1048576) :
    Calls Tryz.prog 4 #[v0, .agg cs.toArray, v2] w fun e w' => e = .returned (.bool true) ∧ Keep No w w' := by
  obtain ⟨a0, c0, e0, -⟩ := id h0
  obtain ⟨a2, c2, e2, -⟩ := id h2
  obtain ⟨a, c, rfl, -⟩ := req_cells hq
  simp only [List.cons.injEq, and_true] at e0 e2
  subst e0
  subst e2
  exact RequestBytes_main w ht a0 a2 _ c0 _ c2 x0 x2 q a c rfl rfl h0 h2 hq (req_small bq) (bytes_len x0 b0) (bytes_len x2 b2)
end Go.Proofs.YtpjcebajkfeacaaGreatDoor
