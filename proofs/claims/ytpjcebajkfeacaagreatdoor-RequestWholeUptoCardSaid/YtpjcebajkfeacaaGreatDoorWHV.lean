/-
  Parts of what is proved for this claim; each declaration is one of the seat's texts.
-/
import Derived.Test.YtpjcebajkfeacaaGreatDoorWGA
import Derived.Test.YtpjcebajkfeacaaGreatDoorWGB
import Derived.Test.YtpjcebajkfeacaaGreatDoorWGC
import Derived.Test.YtpjcebajkfeacaaGreatDoorWGF
import Derived.Test.YtpjcebajkfeacaaGreatDoorWGJ
import Derived.Test.YtpjcebajkfeacaaGreatDoorWGK
import Derived.Test.YtpjcebajkfeacaaGreatDoorWGL
import Derived.Test.YtpjcebajkfeacaaGreatDoorWGV
import Derived.Test.YtpjcebajkfeacaaGreatDoorWGW
import Derived.Test.YtpjcebajkfeacaaGreatDoorWHD
import Derived.Test.YtpjcebajkfeacaaGreatDoorWHN
import Derived.Test.YtpjcebajkfeacaaGreatDoorWHR
import Derived.Test.YtpjcebajkfeacaaGreatDoorWHT
import Derived.Test.YtpjcebajkfeacaaGreatDoorWHU
import Derived.Still
import Derived.StillTactics
import Derived.WalkKit
import Derived.Recover
import Derived.Defers
import Derived.Deep.QuietTactic
import Derived.BigQuiet
import Derived.Handy
import Derived.Laws.Bits64b
import Derived.Lib.Zigzag
import Derived.WalkSpells
import Derived.WalkLawsBesides
import Derived.ProofKit
import Derived.Deep.Slices
import Derived.Deep.AppendSrc
import Derived.Lib.Hide
import Derived.Lib.EndianBits
import Derived.OpenShut
import Derived.Deep.LoopGhost
import Derived.Deep.DeepCutAuto
import Derived.OwnWalk
import Derived.Lib.Bytealg
import Derived.Laws.Externs
import Derived.Laws.CopyRow
import Derived.Laws.IdiomCopy
import Derived.Maps.OwnSet
import Derived.Maps.RangeWalk
import Derived.Shelf.SortM.Plain
import Derived.Shelf.SortM.SortNone
import Derived.Ground.SlgmProg
import Derived.Maps.OwnOps
import Derived.Lib.ItoaNum
import Derived.Lib.Join
import Derived.Deep.WholeRow
import Derived.Shelf.Strconv.Itoa4
import Derived.Shelf.Strings.BuilderK
import Derived.Shelf.Strings.OnBuilder
import Derived.Ground.NamesProg
import Derived.Lib.AppendIntMem
import Derived.Lib.UnsafeStr
import Derived.Maps.Views
set_option linter.unusedVariables false
set_option linter.unusedSimpArgs false
namespace Go.Proofs.YtpjcebajkfeacaaGreatDoor
open Go Go.RowKit Go.Deep
section
variable {P : Program} {ops : Array Oper} {Q : Exit → Act → World → Prop}
def NoPan (Q : Exit → Act → World → Prop) : Exit → Act → World → Prop
  | .panic _, _, _ => False
  | e, a, w => Q e a w
theorem wp_region_cand {id : Nat} {a : Act} {w : World} (l ll : List Nat) (xs : List (Nat × Nat)) (hm : P.follows .mixedOrders = true) (hs : Region.noSelect ops = true) (hlen : (l.length == ops.size) = true)
    (hok : canOk ops (fun i => ll.contains i) (fun i j => xs.contains (i, j)) (fun i => xs.any fun x => x.1 == i) l (Array.replicate ops.size false) = true)
    (h : CanW P ops (NoPan Q) ll xs l (Array.replicate ops.size false) a w.drew) : (Code.region id ops true).wp P Q a w :=
  wp_mono (wp_region_canw l ll xs hm hs hlen hok (fun _ _ _ _ _ h => h) h) fun e a w h => by
    cases e <;> first | exact h | exact h.elim
theorem canw_nild {ll : List Nat} {xs : List (Nat × Nat)} {listed : Array Bool} {a : Act} {w : World} (h : Q .normal a w) : CanW P ops (NoPan Q) ll xs [] listed a w := canw_nil h
end
def NextOf (w : World) (s : Nat) (n : Int) (x : (Req × Int × Bool) × Bytes × Nat) (e : Ending) (w' : World) : Prop :=
  ∃ mid a c, e = .returned (.tuple #[.agg #[.int .i64 x.1.1.client, .int .u64 x.1.1.token, .string x.1.1.name, .slice a x.1.1.args.length c], .int .i64 x.1.2.1, .bool x.1.2.2]) ∧
    RowKit.Hid (w.heap.size ≤ mid ∧ mid ≤ w'.heap.size ∧ Rd requestSh w' (Fr w.heap.size mid) [.int .i64 x.1.1.client, .int .u64 x.1.1.token, .string x.1.1.name, .slice a x.1.1.args.length c] x.1.1 ∧ StreamIn w' s (Fr mid w'.heap.size) x.2.1 (n + x.2.2) ∧ Keep (One s) w w')
structure NxI (w : World) (s : Nat) (A : Nat → Prop) (l : Bytes) (n : Int) (T1 T2 T5 : Nat) (a : Option Addr) (m c : Nat) (k : Nat) (W : World) : Prop where
  st : StreamAt W s A a m c l (n + k)
  t1 : W.heap[T1]? = some (.cells #[.pointer (some ⟨s, 0, none⟩)] 63 (0, 0))
  t2 : W.heap[T2]? = some (.cells #[.int .i64 0, .int .u64 0, .string ⟨#[]⟩, .slice none 0 0] 29 (0, 0))
  t5 : W.heap[T5]? = some (.cells #[.int .i64 k] 3 (0, 0))
  keep : Keep (One s) w W
  bad : ∀ j, j < k → wrongB (l.drop j) = true
theorem NxI.more {w : World} {s : Nat} {A : Nat → Prop} {l : Bytes} {n : Int} {T1 T2 T5 : Nat} {a : Option Addr} {m c : Nat} {k : Nat} {W W' : World} (h : NxI w s A l n T1 T2 T5 a m c k W) (hk : Keep No W W') : NxI w s A l n T1 T2 T5 a m c k W' :=
  ⟨h.st.keep hk (fun x => x) (fun _ _ x => x), hk.blk h.t1 (fun x => x), hk.blk h.t2 (fun x => x), hk.blk h.t5 (fun x => x), h.keep.thenNo hk, h.bad⟩
theorem NxI.step {w : World} {s : Nat} {A : Nat → Prop} {l : Bytes} {n : Int} {T1 T2 T5 : Nat} {a : Option Addr} {m c : Nat} {k : Nat} {W : World} (h : NxI w s A l n T1 T2 T5 a m c k W) (hA : ∀ k, A k → k < w.heap.size) (h5 : w.heap.size ≤ T5)
    (e1 : ¬ T1 = s) (e2 : ¬ T2 = s) (e5 : ¬ T5 = s) (e15 : ¬ T1 = T5) (e25 : ¬ T2 = T5) (hw : wrongB (l.drop k) = true) :
    NxI w s A l n T1 T2 T5 a m c (k + 1) ((W.setCell ⟨T5, 0, none⟩ (.int .i64 (k + 1))).setCell ⟨s, 1, none⟩ (.int .i64 (n + k + 1))) := by
  have b := blk_set (blk_other h.st.blk (a := ⟨T5, 0, none⟩) e5 (.int .i64 (k + 1))) 1 (.int .i64 (n + k + 1))
  have ec : ((k + 1 : Nat) : Int) = (k : Int) + 1 := by omega
  refine ⟨⟨?_, ?_, h.st.nA⟩, blk_other (blk_other h.t1 (fun e => e15 e.symm) _) (fun e => e1 e.symm) _, blk_other (blk_other h.t2 (fun e => e25 e.symm) _) (fun e => e2 e.symm) _, ?_, ?_, ?_⟩
  · rw [ec, show n + ((k : Int) + 1) = n + k + 1 by omega]
    simpa using b
  · exact (h.st.own.agree (agree_set (fun hh => by have := hA _ hh; omega) 0 _)).agree (agree_set h.st.nA 1 _)
  · rw [ec]
    have := blk_other (blk_set h.t5 0 (.int .i64 ((k : Int) + 1))) (a := ⟨s, 1, none⟩) (fun e => e5 e.symm) (.int .i64 (n + k + 1))
    simpa using this
  · exact (h.keep.setNew (p := ⟨T5, 0, none⟩) h5 _).trans (keep_set _ s 1 _)
  · intro j hj
    by_cases hjk : j < k
    · exact h.bad j hjk
    · obtain rfl : j = k := by omega
      exact hw
structure NxR (w : World) (s : Nat) (A : Nat → Prop) (l : Bytes) (n : Int) (T1 T2 T5 : Nat) (k t : Nat) (y0 y1 y2 y3 : Value) (W : World) : Prop where
  st : StreamIn W s A l (n + k)
  t1 : W.heap[T1]? = some (.cells #[.pointer (some ⟨s, 0, none⟩)] 63 (0, 0))
  t2 : W.heap[T2]? = some (.cells #[y0, y1, y2, y3] 29 (0, 0))
  t5 : W.heap[T5]? = some (.cells #[.int .i64 t] 3 (0, 0))
  keep : Keep (One s) w W
theorem NxR.put {w : World} {s : Nat} {A : Nat → Prop} {l : Bytes} {n : Int} {T1 T2 T5 : Nat} {k t : Nat} {x0 x1 x2 x3 : Value} {W : World} (h : NxR w s A l n T1 T2 T5 k t x0 x1 x2 x3 W) (hA : ∀ k, A k → k < w.heap.size) (h2 : w.heap.size ≤ T2)
    (e2 : ¬ T2 = s) (e12 : ¬ T1 = T2) (e25 : ¬ T2 = T5) (y0 y1 y2 y3 : Value) :
    NxR w s A l n T1 T2 T5 k t y0 y1 y2 y3 ((((W.setCell ⟨T2, 0, none⟩ y0).setCell ⟨T2, 1, none⟩ y1).setCell ⟨T2, 2, none⟩ y2).setCell ⟨T2, 3, none⟩ y3) := by
  have kf := keep_four W T2 y0 y1 y2 y3
  refine ⟨h.st.keep kf (fun e => e2 e.symm) (fun i hi e => by have : i = T2 := e; have := hA i hi; omega), kf.blk h.t1 (fun e => e12 e), blk_four h.t2 y0 y1 y2 y3, kf.blk h.t5 (fun e => e25 e.symm), h.keep.then kf fun i hi e => by have : i = T2 := e; omega⟩
theorem NxR.more {w : World} {s : Nat} {A : Nat → Prop} {l : Bytes} {n : Int} {T1 T2 T5 : Nat} {k t : Nat} {x0 x1 x2 x3 : Value} {W W' : World} (h : NxR w s A l n T1 T2 T5 k t x0 x1 x2 x3 W) (hk : Keep No W W') : NxR w s A l n T1 T2 T5 k t x0 x1 x2 x3 W' :=
  ⟨h.st.keep hk (fun x => x) (fun _ _ x => x), hk.blk h.t1 (fun x => x), hk.blk h.t2 (fun x => x), hk.blk h.t5 (fun x => x), h.keep.thenNo hk⟩
theorem NxI.r {w : World} {s : Nat} {A : Nat → Prop} {l : Bytes} {n : Int} {T1 T2 T5 : Nat} {a : Option Addr} {m c : Nat} {k : Nat} {W : World} (h : NxI w s A l n T1 T2 T5 a m c k W) : NxR w s A l n T1 T2 T5 k k (.int .i64 0) (.int .u64 0) (.string ⟨#[]⟩) (.slice none 0 0) W :=
  ⟨⟨a, m, c, h.st⟩, h.t1, h.t2, h.t5, h.keep⟩
theorem NxR.done {w : World} {s : Nat} {A : Nat → Prop} {l : Bytes} {n : Int} {T1 T2 T5 : Nat} {k t : Nat} {q : Req} {az : Option Addr} {cz : Nat} {W W' : World} (h : NxR w s A l n T1 T2 T5 k t (.int .i64 q.client) (.int .u64 q.token) (.string q.name) (.slice az q.args.length cz) W) (e2 : ¬ T2 = s)
    (hr : Rd requestSh W (Fr w.heap.size W.heap.size) [.int .i64 q.client, .int .u64 q.token, .string q.name, .slice az q.args.length cz] q) (hs : s < w.heap.size) (hk : Keep (One s) W W') (hst : StreamIn W' s (Fr W.heap.size W'.heap.size) (l.drop t) (n + k)) (er : Int) (ok : Bool) :
    W'.heap[T2]? = some (.cells #[.int .i64 q.client, .int .u64 q.token, .string q.name, .slice az q.args.length cz] 29 (0, 0)) ∧
    NextOf w s n ((q, er, ok), l.drop t, k) (.returned (.tuple #[.agg #[.int .i64 q.client, .int .u64 q.token, .string q.name, .slice az q.args.length cz], .int .i64 er, .bool ok])) W' :=
  ⟨hk.blk h.t2 (fun e => e2 e), W.heap.size, az, cz, rfl, h.keep.size, hk.size, hr.agree _ (hk.agree fun i _ hi e => by have : i = s := e; have := hi.1; omega), hst, h.keep.trans hk⟩
set_option maxRecDepth 10000 in
set_option maxHeartbeats 4000000 in
theorem stNext_any (w : World) (s : Nat) (A : Nat → Prop) (l : Bytes) (n : Int) (h : StreamIn w s A l n) (hA : ∀ k, A k → k < w.heap.size) (hl : l.length ≤ 1048576) (h0 : 0 ≤ n) (hn : n ≤ 1048576000000) :
    Calls Tryz.prog 32 #[.pointer (some ⟨s, 0, none⟩)] w (NextOf w s n (nextB l)) := by
  have hmf : ∀ (fn : Fn) (first cap : Array Value) (w : World), (Instr.makeFunc fn first cap).run Tryz.prog w = .ok (.func fn first cap) w := fun _ _ _ _ => rfl
  have HB := Lib.hid (And.intro hl (And.intro h0 (And.intro hn (And.intro hA h.lt))))
  obtain ⟨a, m, c, h⟩ := h
  have HI0 : RowKit.Hid (NxI w s A l n w.heap.size (w.heap.size + 1) (w.heap.size + 1 + 1) a m c 0 (((w.alloc (.cells #[.pointer (some ⟨s, 0, none⟩)] 63)).alloc (.cells #[.int .i64 0, .int .u64 0, .string ⟨#[]⟩, .slice none 0 0] 29)).alloc (.cells #[.int .i64 0] 3))) := by
    have k1 : Keep No w (((w.alloc (.cells #[.pointer (some ⟨s, 0, none⟩)] 63)).alloc (.cells #[.int .i64 0, .int .u64 0, .string ⟨#[]⟩, .slice none 0 0] 29)).alloc (.cells #[.int .i64 0] 3)) := (((Keep.refl No w).alloc _).alloc _).alloc _
    have b1 := blk_alloc (o' := .cells #[.int .i64 0] 3) (blk_alloc (o' := .cells #[.int .i64 0, .int .u64 0, .string ⟨#[]⟩, .slice none 0 0] 29) (blk_new w (.cells #[.pointer (some ⟨s, 0, none⟩)] 63)))
    have b2 := blk_alloc (o' := .cells #[.int .i64 0] 3) (blk_new (w.alloc (.cells #[.pointer (some ⟨s, 0, none⟩)] 63)) (.cells #[.int .i64 0, .int .u64 0, .string ⟨#[]⟩, .slice none 0 0] 29))
    have b3 := blk_new ((w.alloc (.cells #[.pointer (some ⟨s, 0, none⟩)] 63)).alloc (.cells #[.int .i64 0, .int .u64 0, .string ⟨#[]⟩, .slice none 0 0] 29)) (.cells #[.int .i64 0] 3)
    simp only [World.size_alloc] at b2 b3
    exact ⟨by simpa using h.keep k1 (fun x => x) (fun _ _ x => x), b1, b2, b3, k1.mono fun _ _ x => x.elim, fun j hj => absurd hj (Nat.not_lt_zero _)⟩
  clear h hl h0 hn hA
  go_enter_defers Tryz.func32, Tryz.ntmps32
  go_wp2_with fail
  generalize (((w.alloc (.cells #[.pointer (some ⟨s, 0, none⟩)] 63)).alloc (.cells #[.int .i64 0, .int .u64 0, .string ⟨#[]⟩, .slice none 0 0] 29)).alloc (.cells #[.int .i64 0] 3)) = w0 at *
  obtain ⟨T1, hT1⟩ : ∃ T1, w.heap.size = T1 := ⟨_, rfl⟩
  obtain ⟨T2, hT2⟩ : ∃ T2, T1 + 1 = T2 := ⟨_, rfl⟩
  obtain ⟨T5, hT5⟩ : ∃ T5, T2 + 1 = T5 := ⟨_, rfl⟩
  rw [hT1] at HI0 ⊢
  rw [hT2] at HI0 ⊢
  rw [hT5] at HI0 ⊢
  have HT := Lib.hid (And.intro hT1 (And.intro hT2 hT5))
  have n1 : ¬ T1 = s := by have := HB.out.2.2.2.2; omega
  have n2 : ¬ T2 = s := by have := HB.out.2.2.2.2; omega
  have n5 : ¬ T5 = s := by have := HB.out.2.2.2.2; omega
  have n12 : ¬ T1 = T2 := by omega
  have n15 : ¬ T1 = T5 := by omega
  have n25 : ¬ T2 = T5 := by omega
  have HNE := Lib.hid (And.intro n1 (And.intro n2 (And.intro n5 (And.intro n12 (And.intro n15 n25)))))
  clear hT1 hT2 hT5 n1 n2 n5 n12 n15 n25
  go_loopg [4] l.length (fun g v wr => ∃ k, k ≤ l.length ∧ g = l.length - k ∧ v = .bool false ∧ ∃ a m c, RowKit.Hid (NxI w s A l n T1 T2 T5 a m c k wr))
  case atStart => exact ⟨0, by omega, by omega, rfl, a, m, c, HI0.out⟩
  case round =>
    clear HI0
    obtain ⟨k, hk, rfl, rfl, a, m, c, HI⟩ := hrel
    have hm := HI.out.st.len
    have kd1 : Keep No wr wr.drew := (Keep.refl No wr).drew
    have HI1 := Lib.hid (HI.out.more kd1)
    clear HI kd1
    have q1 := blk_cell HI1.out.t1
    have q5 := blk_cell HI1.out.t5
    have qs := blk_cell HI1.out.st.blk
    obtain ⟨_, _, hv, hle, hmax, -⟩ := bytes_at (Own.rd HI1.out.st.own)
    simp only [Value.slice.injEq] at hv
    obtain ⟨-, -, rfl⟩ := hv
    go_upto_region 5 with fail
    refine wp_region_cand [0, 1, 2, 3, 4, 5, 6] [] [] (by kernel_rfl) (by kernel_rfl) (by kernel_rfl) (by kernel_rfl) ?_
    generalize wr.drew = w1 at *
    by_cases hlt : k < l.length
    · have j1 : (k : Int) < (m : Int) := by omega
      have j0 : (0 : Int) ≤ (k : Int) := by omega
      have j2 : (k : Int) ≤ (m : Int) := by omega
      have j3 : (m : Int) ≤ (c : Int) := by omega
      have j4 : (k : Int) ≤ 1048576 := by have := HB.out.1; omega
      have HL := Lib.hid (And.intro hlt (And.intro hk hm))
      clear hk hlt hle hmax hm
      iterate 7 (refine canw_sil rfl rfl (fun K hK => ?_); go_simp; refine hK _ ?_; clear hK K)
      refine canw_nild ?_
      clear q1 q5 qs
      go_upto_region 6 with fail
      have kd2 : Keep No w1 w1.drew := (Keep.refl No w1).drew
      have HI2 := Lib.hid (HI1.out.more kd2)
      clear HI1 kd2
      have q1 := blk_cell HI2.out.t1
      have q5 := blk_cell HI2.out.t5
      have qs := blk_cell HI2.out.st.blk
      refine wp_region_cand [0, 1, 2, 3, 4, 5, 6, 7, 8, 9, 10, 11, 12, 13] [6] [] (by kernel_rfl) (by kernel_rfl) (by kernel_rfl) (by kernel_rfl) ?_
      generalize w1.drew = w2 at *
      iterate 6 (refine canw_sil rfl rfl (fun K hK => ?_); go_simp; refine hK _ ?_; clear hK K)
      obtain ⟨ld, tk, er, hop⟩ : ∃ ld tk er, openB (l.drop k) = (ld, tk, er) := ⟨_, _, _, rfl⟩
      have hopen := (Open_any w2 _ _ _ _ (l.drop k) (rdb_from (Own.rd HI2.out.st.own) k (by have := HL.out; omega)) (by have := HL.out; simp; omega)).mono (R' := fun e w3 => ∃ a1 n1 c1, e = .returned (.tuple #[.slice a1 n1 c1, .int .i64 tk, .int .i64 er]) ∧ RowKit.Hid (OwnB w2 w3 (.slice a1 n1 c1) ld ∧ NxI w s A l n T1 T2 T5 a m c k w3)) (by
        rw [hop]
        rintro e w3 ⟨a1, n1, c1, rfl, ho⟩
        exact ⟨a1, n1, c1, rfl, ho, HI2.out.more ho.2⟩)
      have HOP := Lib.hid hop
      have HW2 := Lib.hid (blk_lt HI2.out.t5)
      clear hop q1 q5 qs
      generalize (if c = k then a else Option.map (fun x => x.add k) a) = av at hopen ⊢
      refine canw_loud [] rfl rfl rfl (fun K hK => ?_)
      go_wp2_with (go_at_call 85; refine hopen.mono ?_; clear hopen; rintro e w3 ⟨a1, n1, c1, rfl, H3⟩)
      refine Mid.normal (hK _ _ stabs_nil ?_)
      clear hK K
      iterate 7 (refine canw_sil rfl rfl (fun K hK => ?_); go_simp; refine hK _ ?_; clear hK K)
      refine canw_nild ?_
      go_upto_region 10 with fail
      have kd3 : Keep No w3 w3.drew := (Keep.refl No w3).drew
      have H4 := Lib.hid (And.intro (H3.out.1.more kd3) (H3.out.2.more kd3))
      clear H3 kd3 HI2
      have q1 := blk_cell H4.out.2.t1
      have q5 := blk_cell H4.out.2.t5
      have qs := blk_cell H4.out.2.st.blk
      refine wp_region_cand [0, 1, 2, 3, 4, 5, 6, 7, 8] [7] [] (by kernel_rfl) (by kernel_rfl) (by kernel_rfl) (by kernel_rfl) ?_
      generalize w3.drew = w4 at *
      iterate 7 (refine canw_sil rfl rfl (fun K hK => ?_); go_simp; refine hK _ ?_; clear hK K)
      obtain ⟨wb, hwb⟩ : ∃ wb, wrongB (l.drop k) = wb := ⟨_, rfl⟩
      have hwr := (wrong_any w4 _ _ _ _ (l.drop k) (rdb_from (Own.rd H4.out.2.st.own) k (by have := HL.out; omega)) (by have := HL.out; simp; omega) er).mono (R' := fun e w5 => e = .returned (.bool wb) ∧ RowKit.Hid (OwnB w2 w5 (.slice a1 n1 c1) ld ∧ NxI w s A l n T1 T2 T5 a m c k w5)) (by
        have : wrongE (l.drop k) er = wb := by rw [← hwb]; unfold wrongB; rw [HOP.out]
        rw [this]
        rintro e w5 ⟨nq, rfl, rfl⟩
        exact ⟨rfl, H4.out.1.more ((Keep.refl No w4).drewN nq), H4.out.2.more ((Keep.refl No w4).drewN nq)⟩)
      have HWB := Lib.hid hwb
      clear hwb q1 q5 qs
      generalize (if c = k then a else Option.map (fun x => x.add k) a) = av2 at hwr ⊢
      refine canw_loud [] rfl rfl rfl (fun K hK => ?_)
      go_wp2_with (go_at_call 86; refine hwr.mono ?_; clear hwr; rintro e w5 ⟨rfl, H5⟩)
      refine Mid.normal (hK _ _ stabs_nil ?_)
      clear hK K H4
      iterate 1 (refine canw_sil rfl rfl (fun K hK => ?_); go_simp; refine hK _ ?_; clear hK K)
      refine canw_nild ?_
      cases wb with
      | true =>
        have q5 := blk_cell H5.out.2.t5
        have f5 := blk_fro H5.out.2.t5
        have g0 : (0 : Int) ≤ n + (k : Int) := by have := HB.out.2.1; omega
        have g1 : n + (k : Int) ≤ 1048578000000 := by have := HB.out.2.2.1; omega
        go_upto_region 12 with fail
        have hstep := H5.out.2.step HB.out.2.2.2.1 (by have := HT.out; omega) HNE.out.1 HNE.out.2.1 HNE.out.2.2.1 HNE.out.2.2.2.2.1 HNE.out.2.2.2.2.2 HWB.out
        have x1 := blk_other H5.out.2.t1 (a := ⟨T5, 0, none⟩) (fun e => HNE.out.2.2.2.2.1 e.symm) (.int .i64 (k + 1))
        have xs := blk_other H5.out.2.st.blk (a := ⟨T5, 0, none⟩) HNE.out.2.2.1 (.int .i64 (k + 1))
        have HST := Lib.hid hstep
        clear hstep q5 f5 H5
        generalize w5.setCell ⟨T5, 0, none⟩ (.int .i64 (k + 1)) = w6 at *
        have q1 := blk_cell x1
        have qs := blk_cell xs
        have fs := blk_fro xs
        go_wp2_with fail
        go_roundg (l.length - (k + 1))
        case measure => have := HL.out.1; omega
        case rel => exact ⟨k + 1, HL.out.1, rfl, rfl, a, m, c, HST.out⟩
      | false =>
        have hsk : skipB l = k := skip_is H5.out.2.bad HWB.out
        by_cases he : er = 0
        · subst he
          have hnx := next_some hsk HOP.out
          have htk := open_took (l.drop k) (by rw [HOP.out])
          rw [HOP.out] at htk
          have ht1 : tk ≤ l.length - k := by have := htk.2.1; simpa using this
          have HX := Lib.hid (And.intro hnx ht1)
          have i0 : (0 : Int) ≤ (tk : Int) := by omega
          have i1 : (tk : Int) ≤ 1048576 := by have := HB.out.1; omega
          have q5 := blk_cell H5.out.2.t5
          have f5 := blk_fro H5.out.2.t5
          have b5 := blk_set H5.out.2.t5 0 (.int .i64 (k + tk))
          have HR : RowKit.Hid (NxR w s A l n T1 T2 T5 k (k + tk) (.int .i64 0) (.int .u64 0) (.string ⟨#[]⟩) (.slice none 0 0) (w5.setCell ⟨T5, 0, none⟩ (.int .i64 (k + tk))) ∧ Rd bytesSh (w5.setCell ⟨T5, 0, none⟩ (.int .i64 (k + tk))) (Fr w2.heap.size w5.heap.size) [.slice a1 n1 c1] ld) := by
            have hr := H5.out.2.r
            have h5T := HT.out
            have ks := keep_set w5 T5 0 (.int .i64 (k + tk))
            refine ⟨⟨hr.st.keep ks (fun e => HNE.out.2.2.1 e.symm) (fun i hi e => by have : i = T5 := e; have := HB.out.2.2.2.1 i hi; omega), ks.blk hr.t1 (fun e => HNE.out.2.2.2.2.1 e), ks.blk hr.t2 (fun e => HNE.out.2.2.2.2.2 e), by simpa using b5, hr.keep.setNew (p := ⟨T5, 0, none⟩) (by show w.heap.size ≤ T5; omega) _⟩, ?_⟩
            exact H5.out.1.rd.agree _ (agree_set (b := T5) (fun hh => by have := HW2.out; have := hh.1; omega) 0 _)
          clear hnx hsk htk ht1 b5 H5
          go_upto_region 8 with fail
          clear q5 f5
          generalize w5.setCell ⟨T5, 0, none⟩ (.int .i64 (k + tk)) = w6 at *
          obtain ⟨z, ez, zt, hz⟩ : ∃ z ez zt, reqGet ld = (z, ez, zt) := ⟨_, _, _, rfl⟩
          have hget := ((rqGet_any w6 _ _ ld HR.out.2).mono (fun e w7 h => givesZ (bytes_all HR.out.2) hz h)).mono (R' := fun e w7 => ∃ az cz, e = .returned (.tuple #[.agg #[.int .i64 z.client, .int .u64 z.token, .string z.name, .slice az z.args.length cz], .int .i64 ez, .int .i64 zt]) ∧ RowKit.Hid (Rd requestSh w7 (Fr w6.heap.size w7.heap.size) [.int .i64 z.client, .int .u64 z.token, .string z.name, .slice az z.args.length cz] z ∧ NxR w s A l n T1 T2 T5 k (k + tk) (.int .i64 0) (.int .u64 0) (.string ⟨#[]⟩) (.slice none 0 0) w7)) (by
            rintro e w7 ⟨az, cz, rfl, h⟩
            exact ⟨az, cz, rfl, h.out.1, HR.out.1.more h.out.2⟩)
          have HX2 : RowKit.Hid (nextB l = ((z, ez, true), l.drop (k + tk), k) ∧ tk ≤ l.length - k) := by
            have := HX.out
            rw [hz] at this
            exact this
          clear hz HX
          go_upto_region 9 with (go_at_call 18; refine hget.mono ?_; clear hget; rintro e w7 ⟨az, cz, rfl, H7⟩)
          have K8 := (Keep.refl No w7).alloc (.cells #[.int .i64 z.client, .int .u64 z.token, .string z.name, .slice az z.args.length cz] 29)
          have z8 := blk_new w7 (.cells #[.int .i64 z.client, .int .u64 z.token, .string z.name, .slice az z.args.length cz] 29)
          generalize (w7.alloc (.cells #[.int .i64 z.client, .int .u64 z.token, .string z.name, .slice az z.args.length cz] 29)) = w8 at *
          generalize w7.heap.size = Z at *
          have H8 : RowKit.Hid (Rd requestSh w8 (Fr w6.heap.size w8.heap.size) [.int .i64 z.client, .int .u64 z.token, .string z.name, .slice az z.args.length cz] z ∧ NxR w s A l n T1 T2 T5 k (k + tk) (.int .i64 0) (.int .u64 0) (.string ⟨#[]⟩) (.slice none 0 0) w8 ∧ T2 < w6.heap.size ∧ w.heap.size ≤ w6.heap.size) := by
            have hs8 := K8.size
            exact ⟨(H7.out.1.mono requestSh fun i _ hi => ⟨hi.1, by have := hi.2; omega⟩).agree _ K8.agreeNo, H7.out.2.more K8, blk_lt HR.out.1.t2, HR.out.1.keep.size⟩
          clear H7 K8 HR
          have q8 := blk_cell z8
          have q2 := blk_cell H8.out.2.1.t2
          have f2 := blk_fro H8.out.2.1.t2
          have HP : RowKit.Hid (NxR w s A l n T1 T2 T5 k (k + tk) (.int .i64 z.client) (.int .u64 z.token) (.string z.name) (.slice az z.args.length cz) ((((w8.setCell ⟨T2, 0, none⟩ (.int .i64 z.client)).setCell ⟨T2, 1, none⟩ (.int .u64 z.token)).setCell ⟨T2, 2, none⟩ (.string z.name)).setCell ⟨T2, 3, none⟩ (.slice az z.args.length cz)) ∧
              Rd requestSh ((((w8.setCell ⟨T2, 0, none⟩ (.int .i64 z.client)).setCell ⟨T2, 1, none⟩ (.int .u64 z.token)).setCell ⟨T2, 2, none⟩ (.string z.name)).setCell ⟨T2, 3, none⟩ (.slice az z.args.length cz)) (Fr w.heap.size ((((w8.setCell ⟨T2, 0, none⟩ (.int .i64 z.client)).setCell ⟨T2, 1, none⟩ (.int .u64 z.token)).setCell ⟨T2, 2, none⟩ (.string z.name)).setCell ⟨T2, 3, none⟩ (.slice az z.args.length cz)).heap.size) [.int .i64 z.client, .int .u64 z.token, .string z.name, .slice az z.args.length cz] z) := by
            refine ⟨H8.out.2.1.put HB.out.2.2.2.1 (by have := HT.out; omega) HNE.out.2.1 HNE.out.2.2.2.1 HNE.out.2.2.2.2.2 _ _ _ _, ?_⟩
            have kf := keep_four w8 T2 (.int .i64 z.client) (.int .u64 z.token) (.string z.name) (.slice az z.args.length cz)
            have hsz := kf.size
            refine Rd.mono requestSh (H8.out.1.agree requestSh (kf.agree fun i _ hi e => ?_)) fun i _ hi => ⟨?_, ?_⟩
            · have h1 : i = T2 := e
              have h2 := hi.1
              have h3 := H8.out.2.2.1
              omega
            · exact Nat.le_trans H8.out.2.2.2 hi.1
            · exact Nat.lt_of_lt_of_le hi.2 hsz
          clear H8 z8
          go_wp2_with fail
          clear q2 f2 q8
          generalize ((((w8.setCell ⟨T2, 0, none⟩ (.int .i64 z.client)).setCell ⟨T2, 1, none⟩ (.int .u64 z.token)).setCell ⟨T2, 2, none⟩ (.string z.name)).setCell ⟨T2, 3, none⟩ (.slice az z.args.length cz)) = w9 at *
          refine leaves_cons (f := 83) (args := #[.pointer (some ⟨T1, 0, none⟩), .pointer (some ⟨T5, 0, none⟩)]) (by simp) (by simp [go_sem]) ?_
          refine (next1_any w9 T1 T5 s A l (n + k) (k + tk) HP.out.1.st ((blk_cell HP.out.1.t1) 0) ((blk_cell HP.out.1.t5) 0) (by have := HX2.out.2; have := HL.out.1; omega) (by have := HB.out.1; omega)).mono ?_
          rintro e u' w10 ⟨rfl, rfl, hst, hk7⟩
          have hd := NxR.done HP.out.1 HNE.out.2.1 HP.out.2 HB.out.2.2.2.2 hk7 hst ez true
          have c7 := blk_cell hd.1
          rw [HX2.out.1]
          exact ⟨.tuple #[.agg #[.int .i64 z.client, .int .u64 z.token, .string z.name, .slice az z.args.length cz], .int .i64 ez, .bool true], by simp [results, Tryz.results32, go_sem, c7], hd.2⟩
        · have hnx := next_none hsk HOP.out he
          have he' : (er != 0) = true := by simpa using he
          have HR := Lib.hid (H5.out.2.r.put HB.out.2.2.2.1 (by have := HT.out; omega) HNE.out.2.1 HNE.out.2.2.2.1 HNE.out.2.2.2.2.2 (.int .i64 0) (.int .u64 0) (.string ⟨#[]⟩) (.slice none 0 0))
          have q2 := blk_cell H5.out.2.t2
          have f2 := blk_fro H5.out.2.t2
          have HX := Lib.hid hnx
          clear hnx hsk he H5
          go_wp2_with fail
          clear q2 f2
          generalize ((((w5.setCell ⟨T2, 0, none⟩ (.int .i64 0)).setCell ⟨T2, 1, none⟩ (.int .u64 0)).setCell ⟨T2, 2, none⟩ (.string ⟨#[]⟩)).setCell ⟨T2, 3, none⟩ (.slice none 0 0)) = w6 at *
          refine leaves_cons (f := 83) (args := #[.pointer (some ⟨T1, 0, none⟩), .pointer (some ⟨T5, 0, none⟩)]) (by simp) (by simp [go_sem]) ?_
          refine (next1_any w6 T1 T5 s A l (n + k) k HR.out.st ((blk_cell HR.out.t1) 0) ((blk_cell HR.out.t5) 0) (by have := HL.out.1; omega) (by have := HB.out.1; omega)).mono ?_
          rintro e u' w7 ⟨rfl, rfl, hst, hk7⟩
          have hd := NxR.done (q := req0) (az := none) (cz := 0) HR.out HNE.out.2.1 (req0_rd _ _) HB.out.2.2.2.2 hk7 hst 0 false
          have c7 := blk_cell hd.1
          rw [HX.out]
          exact ⟨.tuple #[.agg #[.int .i64 req0.client, .int .u64 req0.token, .string req0.name, .slice none req0.args.length 0], .int .i64 0, .bool false], by simp [results, Tryz.results32, go_sem, c7], hd.2⟩
    · have j1 : ¬ (k : Int) < (m : Int) := by omega
      have hkm : l.length = k := by omega
      have hnx := next_end HI1.out.bad hkm
      have HX := Lib.hid (And.intro hnx hkm)
      clear hnx hkm hlt hk hle hmax hm
      iterate 7 (refine canw_sil rfl rfl (fun K hK => ?_); go_simp; refine hK _ ?_; clear hK K)
      refine canw_nild ?_
      have HR := Lib.hid (HI1.out.r.put HB.out.2.2.2.1 (by have := HT.out; omega) HNE.out.2.1 HNE.out.2.2.2.1 HNE.out.2.2.2.2.2 (.int .i64 0) (.int .u64 0) (.string ⟨#[]⟩) (.slice none 0 0))
      have q2 := blk_cell HI1.out.t2
      have f2 := blk_fro HI1.out.t2
      clear HI1 q1 q5 qs
      go_wp2_with fail
      clear q2 f2
      generalize ((((w1.setCell ⟨T2, 0, none⟩ (.int .i64 0)).setCell ⟨T2, 1, none⟩ (.int .u64 0)).setCell ⟨T2, 2, none⟩ (.string ⟨#[]⟩)).setCell ⟨T2, 3, none⟩ (.slice none 0 0)) = w6 at *
      refine leaves_cons (f := 83) (args := #[.pointer (some ⟨T1, 0, none⟩), .pointer (some ⟨T5, 0, none⟩)]) (by simp) (by simp [go_sem]) ?_
      refine (next1_any w6 T1 T5 s A l (n + k) k HR.out.st ((blk_cell HR.out.t1) 0) ((blk_cell HR.out.t5) 0) (by have := HX.out.2; omega) (by have := HB.out.1; omega)).mono ?_
      rintro e u' w7 ⟨rfl, rfl, hst, hk7⟩
      have hd := NxR.done (q := req0) (az := none) (cz := 0) HR.out HNE.out.2.1 (req0_rd _ _) HB.out.2.2.2.2 hk7 hst 0 false
      have c7 := blk_cell hd.1
      rw [HX.out.1]
      exact ⟨.tuple #[.agg #[.int .i64 req0.client, .int .u64 req0.token, .string req0.name, .slice none req0.args.length 0], .int .i64 0, .bool false], by simp [results, Tryz.results32, go_sem, c7], hd.2⟩
end Go.Proofs.YtpjcebajkfeacaaGreatDoor
