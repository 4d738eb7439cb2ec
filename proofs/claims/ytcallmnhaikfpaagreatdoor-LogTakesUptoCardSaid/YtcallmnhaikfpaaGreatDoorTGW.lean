/-
  Parts of what is proved for this claim; each declaration is one of the seat's texts.
-/
import Derived.Test.YtcallmnhaikfpaaGreatDoorTGA
import Derived.Test.YtcallmnhaikfpaaGreatDoorTGC
import Derived.Test.YtcallmnhaikfpaaGreatDoorTGD
import Derived.Test.YtcallmnhaikfpaaGreatDoorTGF
import Derived.Test.YtcallmnhaikfpaaGreatDoorTGG
import Derived.Test.YtcallmnhaikfpaaGreatDoorTGH
import Derived.Test.YtcallmnhaikfpaaGreatDoorTGI
import Derived.Test.YtcallmnhaikfpaaGreatDoorTGK
import Derived.Test.YtcallmnhaikfpaaGreatDoorTGL
import Derived.Test.YtcallmnhaikfpaaGreatDoorTGT
import Derived.Test.YtcallmnhaikfpaaGreatDoorTGU
import Derived.Still
import Derived.StillTactics
import Derived.WalkKit
import Derived.WalkSpells
import Derived.WalkLawsBesides
import Derived.ProofKit
import Derived.Deep.Slices
import Derived.Deep.AppendSrc
import Derived.Lib.Hide
import Derived.Recover
import Derived.Defers
import Derived.Deep.QuietTactic
import Derived.BigQuiet
import Derived.Handy
import Derived.Laws.Bits64b
import Derived.Lib.Zigzag
import Derived.OwnWalk
import Derived.Deep.DeepCutAuto
import Derived.Lib.Bytealg
import Derived.Laws.Externs
import Derived.Deep.LoopGhost
import Derived.Laws.CopyRow
import Derived.Laws.IdiomCopy
import Derived.Maps.OwnSet
import Derived.Maps.RangeWalk
import Derived.Shelf.SortM.Plain
import Derived.Shelf.SortM.SortNone
import Derived.Ground.SlgmProg
import Derived.Maps.OwnOps
set_option linter.unusedVariables false
set_option linter.unusedSimpArgs false
namespace Go.Proofs.YtcallmnhaikfpaaGreatDoor
open Go Go.RowKit Go.Deep
theorem Tryz.infoVal : (Tryz.prog.info? 84).map (fun i => (i.zero, i.size, i.bytes)) = some (some (.agg #[.int .i64 0, .int .i64 0, .string ⟨#[]⟩]), 3, 32) := by kernel_rfl
theorem wf_i64 {n : Int} (h0 : -9223372036854775808 ≤ n) (h1 : n ≤ 9223372036854775807) : (Lit.int .i64 n).wf = true := by
  simp [Lit.wf, IntKind.min, IntKind.max, IntKind.signed, IntKind.bits]; omega
theorem val_row {w : World} {S : Nat → Prop} {v : Val} (h : v.In) (ht : v.text.size ≤ 9223372036854775807) : Rd valueSh w S [.int .i64 v.kind, .int .i64 v.num, .string v.text] v := by
  have h1 := h.k0
  have h2 := h.k1
  have h3 := h.n0
  have h4 := h.n1
  refine ⟨[.int .i64 v.kind], _, rfl, ⟨rfl, ?_⟩, [.int .i64 v.num], _, rfl, ⟨rfl, ?_⟩, [.string v.text], _, rfl, ⟨rfl, by rw [maxLen_is]; exact ht⟩, rfl⟩
  · exact wf_i64 h1 h2
  · exact wf_i64 h3 h4
theorem own_val {w : World} {A : Nat → Prop} {v : Value} {l : List Val} (h : Own valueSh 84 w A v l) (x : Val) (hi : x.In) (ht : x.text.size ≤ 9223372036854775807) (hl : l.length + 1 ≤ 1048576) :
    ∃ a c w', (Builtin.append_ #[36, 36] 36 #[v, .slice (some ⟨w.heap.size, 0, none⟩) 1 1]).run Tryz.prog (w.alloc (.cells #[.int .i64 x.kind, .int .i64 x.num, .string x.text] 84)) = .ok (.slice a (l.length + 1) c) w' ∧ Own valueSh 84 w' (fun k => (A k ∨ k = w.heap.size + 1) ∧ k < w'.heap.size) (.slice a (l.length + 1) c) (l ++ [x]) ∧ Keep A w w' := by
  obtain ⟨i0, hi0, hz0, hz1, hz2⟩ := info_parts Tryz.infoVal
  have h1 : Own valueSh 84 (w.alloc (.cells #[.int .i64 x.kind, .int .i64 x.num, .string x.text] 84)) A v l := Own.agree h ((Keep.refl No w).alloc _).agreeNo
  obtain ⟨a, c, w', hr, ho, hk, hs⟩ := Own.append (P := Tryz.prog) (T := No) h1 36 36 i0 _ 32 Tryz.underlying36 hi0 hz0 hz1 hz2 rfl (blk_new w _) (x := x) (val_row hi ht) (fun k _ x => x) (by omega) (by omega) 1
  refine ⟨a, c, w', hr, Own.mono ho.live fun k hk' => ?_, ((Keep.refl _ w).alloc _).then hk fun i _ hi => hi⟩
  obtain ⟨h1 | h1 | h1, h2⟩ := hk'
  · exact ⟨.inl h1, h2⟩
  · exact h1.elim
  · simp only [World.size_alloc] at h1; exact ⟨.inr h1, h2⟩
def OwnV (lo : Nat) (w : World) (v : Value) (l : List Val) : Prop := Own valueSh 84 w (Fr lo w.heap.size) v l
theorem OwnV.keep {lo : Nat} {w w' : World} {v : Value} {l : List Val} (h : OwnV lo w v l) {M : Nat → Prop} (hk : Keep M w w') (hM : ∀ i, lo ≤ i → ¬ M i) : OwnV lo w' v l :=
  Own.mono (Own.agree h (hk.agree fun i _ hi hm => hM i hi.1 hm)) fun k hk' => ⟨hk'.1, Nat.lt_of_lt_of_le hk'.2 hk.size⟩
theorem OwnV.app {lo : Nat} {w : World} {v : Value} {l : List Val} (h : OwnV lo w v l) (hlo : lo ≤ w.heap.size) (x : Val) (hi : x.In) (ht : x.text.size ≤ 9223372036854775807) (hl : l.length + 1 ≤ 1048576) :
    ∃ a c w', (Builtin.append_ #[36, 36] 36 #[v, .slice (some ⟨w.heap.size, 0, none⟩) 1 1]).run Tryz.prog (w.alloc (.cells #[.int .i64 x.kind, .int .i64 x.num, .string x.text] 84)) = .ok (.slice a (l.length + 1) c) w' ∧ OwnV lo w' (.slice a (l.length + 1) c) (l ++ [x]) ∧ Keep (Fr lo w.heap.size) w w' := by
  obtain ⟨a, c, w', hr, ho, hk⟩ := own_val h x hi ht hl
  refine ⟨a, c, w', hr, ho.mono fun k hk' => ?_, hk⟩
  obtain ⟨h1 | h1, h2⟩ := hk'
  · exact ⟨h1.1, h2⟩
  · exact ⟨by omega, h2⟩
structure RqGet (T : TypeId) (w : World) (g B F lo : Nat) (S : Nat → Prop) (vr : Value) (b : Bytes) (c t : Int) (nm : ByteArray) (wr : World) (r : Rs) (v : Value) (l : List Val) : Prop where
  keep : Keep No w wr
  g0 : wr.heap[g]? = some (.cells #[.int .i64 0, .int .u64 0, .string ⟨#[]⟩, .slice none 0 0] 38 (0, 0))
  F0 : wr.heap[F]? = some (.cells #[.int .i64 c, .int .u64 t, .string nm, v] 38 (0, 0))
  rd : RdrAt T wr B S vr r
  own : OwnV lo wr v l
  gw : w.heap.size ≤ g
  gB : g ≠ B
  gF : g ≠ F
  FB : F ≠ B
  glo : g < lo
  Blo : B < lo
  Flo : F < lo
  FS : ¬ S F
  Slo : ∀ k, S k → k < lo
  rb : r.b = b
  Bw : w.heap.size ≤ B
  Fw : w.heap.size ≤ F
  low : lo ≤ wr.heap.size
theorem RqGet.read {T : TypeId} {w : World} {g B F lo : Nat} {S : Nat → Prop} {vr : Value} {b : Bytes} {c t : Int} {nm : ByteArray} {wr : World} {r : Rs} {v : Value} {l : List Val} (h : RqGet T w g B F lo S vr b c t nm wr r v l) {x : Value} {r' : Rs} {e : Ending} {w' : World} (hr : Reads T wr B S vr x r' e w') (hb : r'.b = r.b) :
    RqGet T w g B F lo S vr b c t nm w' r' v l := by
  obtain ⟨-, h1, hk⟩ := hr
  have hB := h.Bw
  exact { h with
    keep := h.keep.then hk fun i hi e => by have : i = B := e; omega
    g0 := hk.blk h.g0 (fun e => h.gB e)
    F0 := hk.blk h.F0 (fun e => h.FB e)
    rd := h1
    own := h.own.keep hk fun i hi e => by have : i = B := e; have := h.Blo; omega
    rb := hb.trans h.rb
    low := Nat.le_trans h.low hk.size }
theorem RqGet.more {T : TypeId} {w : World} {g B F lo : Nat} {S : Nat → Prop} {vr : Value} {b : Bytes} {c t : Int} {nm : ByteArray} {wr w' : World} {r : Rs} {v : Value} {l : List Val} (h : RqGet T w g B F lo S vr b c t nm wr r v l) (hk : Keep No wr w') : RqGet T w g B F lo S vr b c t nm w' r v l :=
  { h with
    keep := h.keep.trans hk
    g0 := hk.blk h.g0 (fun x => x)
    F0 := hk.blk h.F0 (fun x => x)
    rd := h.rd.agree hk
    own := h.own.keep hk fun _ _ x => x
    low := Nat.le_trans h.low hk.size }
theorem RqGet.grow {T : TypeId} {w : World} {g B F lo : Nat} {S : Nat → Prop} {vr : Value} {b : Bytes} {c t : Int} {nm : ByteArray} {wr w2 : World} {r : Rs} {v v' : Value} {l l' : List Val} (h : RqGet T w g B F lo S vr b c t nm wr r v l) (hk : Keep (Fr lo wr.heap.size) wr w2) (h2 : OwnV lo w2 v' l') :
    RqGet T w g B F lo S vr b c t nm (w2.setCell ⟨F, 3, none⟩ v') r v' l' := by
  have n1 : ∀ k, k < lo → ¬ Fr lo wr.heap.size k := fun k hk hf => by have := hf.1; omega
  have hF2 := hk.blk h.F0 (n1 F h.Flo)
  have hset := blk_set hF2 3 v'
  have ks := keep_set w2 F 3 v'
  have hr2 : RdrAt T w2 B S vr r := ⟨hk.blk h.rd.blk (n1 B h.Blo), h.rd.rd.lowT hk (fun k hS => n1 k (h.Slo k hS)), h.rd.nB, h.rd.ok, h.rd.pl⟩
  have hsz := hk.size
  have hlow := h.low
  exact { h with
    keep := (h.keep.then hk fun k hkw hf => by have := hf.1; have := h.Flo; have := h.Fw; omega).then ks fun k hkw e => by have : k = F := e; have := h.Fw; omega
    g0 := ks.blk (hk.blk h.g0 (n1 g h.glo)) (fun e => h.gF e)
    F0 := by simpa using hset
    rd := ⟨ks.blk hr2.blk (fun e => h.FB (show B = F from e).symm), hr2.rd.lowT ks (fun k hS e => h.FS (by cases (show k = F from e); exact hS)), hr2.nB, hr2.ok, hr2.pl⟩
    own := h2.keep ks fun k hk e => by have : k = F := e; have := h.Flo; omega
    low := by simp; omega }
theorem blk_four {w : World} {b : Nat} {x y z u : Value} {t : TypeId} (h : w.heap[b]? = some (.cells #[x, y, z, u] t (0, 0))) (x' y' z' u' : Value) :
    ((((w.setCell ⟨b, 0, none⟩ x').setCell ⟨b, 1, none⟩ y').setCell ⟨b, 2, none⟩ z').setCell ⟨b, 3, none⟩ u').heap[b]? = some (.cells #[x', y', z', u'] t (0, 0)) := by
  have := blk_set (blk_set (blk_set (blk_set h 0 x') 1 y') 2 z') 3 u'
  simpa using this
theorem keep_four (w : World) (b : Nat) (x y z u : Value) : Keep (One b) w ((((w.setCell ⟨b, 0, none⟩ x).setCell ⟨b, 1, none⟩ y).setCell ⟨b, 2, none⟩ z).setCell ⟨b, 3, none⟩ u) :=
  (((keep_set w b 0 x).trans (keep_set _ b 1 y)).trans (keep_set _ b 2 z)).trans (keep_set _ b 3 u)
theorem RqGet.done {T : TypeId} {w : World} {g B F lo : Nat} {S : Nat → Prop} {vr : Value} {b : Bytes} {c t : Int} {nm : ByteArray} {wr : World} {r : Rs} {v : Value} {l : List Val} (h : RqGet T w g B F lo S vr b c t nm wr r v l) (x y z u : Value) :
    Own valueSh 84 ((((wr.setCell ⟨g, 0, none⟩ x).setCell ⟨g, 1, none⟩ y).setCell ⟨g, 2, none⟩ z).setCell ⟨g, 3, none⟩ u) (Fr w.heap.size ((((wr.setCell ⟨g, 0, none⟩ x).setCell ⟨g, 1, none⟩ y).setCell ⟨g, 2, none⟩ z).setCell ⟨g, 3, none⟩ u).heap.size) v l ∧ Keep No w ((((wr.setCell ⟨g, 0, none⟩ x).setCell ⟨g, 1, none⟩ y).setCell ⟨g, 2, none⟩ z).setCell ⟨g, 3, none⟩ u) := by
  have ks := keep_four wr g x y z u
  have hk : Keep No w _ := h.keep.then ks fun i hi e => by have : i = g := e; have := h.gw; omega
  have ho := h.own.keep ks (fun i hi e => by have : i = g := e; have := h.glo; omega)
  exact ⟨Own.mono ho fun k hk' => ⟨by have := hk'.1; have := h.glo; have := h.gw; omega, hk'.2⟩, hk⟩
def GivesRQ (w : World) (x : Req × Int × Nat) (e : Ending) (w' : World) : Prop := ∃ a n c, e = .returned (.tuple #[.agg #[.int .i64 x.1.client, .int .u64 x.1.token, .string x.1.name, .slice a n c], .int .i64 x.2.1, .int .i64 x.2.2]) ∧ Own valueSh 84 w' (Fr w.heap.size w'.heap.size) (.slice a n c) x.1.args ∧ Keep No w w'
theorem reqGet_cases {b : Bytes} (h : ¬ 1024 < b.length) {c : Nat} {t : Nat} {nm : ByteArray} {rc rt rn rk : Rs} {k : Nat} (hc : (Rs.new b).count 63 = (c, rc)) (ht : rc.uint = (t, rt)) (hn : rt.text 16 = (nm, rn)) (hk : (if nameOk nm = true then rn else rn.fail 90).count 8 = (k, rk)) :
    (∀ a, argsF k [] rk = .inr a → reqGet b = (req0, 91, a)) ∧ ∀ l r, argsF k [] rk = .inl (l, r) → reqGet b = if r.end'.err ≠ 0 then (req0, r.end'.err, r.end'.spot) else (mkReq c t nm l, 0, 0) := by
  unfold reqGet
  rw [if_neg h]
  simp only [hc, ht, hn, hk]
  exact ⟨fun a h => by rw [h], fun l r h => by rw [h]⟩
theorem argsF_succ (n : Nat) (l : List Val) (r : Rs) : argsF (n + 1) l r = if (takeV r).2.err = 0 ∧ (takeV r).1.kind = 0 then .inr r.at' else argsF n (l ++ [(takeV r).1]) (takeV r).2 := rfl
theorem takeV_b (r : Rs) : (takeV r).2.b = r.b := by
  have ho : ∀ v (s : Rs), (orNone v s).2 = s := fun v s => by unfold orNone; split <;> rfl
  have hi : ∀ s : Rs, s.int.2.b = s.b := fun s => by
    show s.uint.2.b = s.b
    unfold Rs.uint
    split
    · rfl
    split <;> rfl
  unfold takeV
  split
  · rw [ho, hi, byte_b]
  split
  · simp only [ho]
    split
    · rw [text_b, byte_b]
    · rw [fail_b, text_b, byte_b]
  split
  · rw [ho, byte_b]
  · rw [ho, fail_b, byte_b]
theorem uint_b (s : Rs) : s.uint.2.b = s.b := by
  unfold Rs.uint
  split
  · rfl
  split <;> rfl
theorem end_b (s : Rs) : s.end'.b = s.b := by unfold Rs.end'; split <;> rfl
end Go.Proofs.YtcallmnhaikfpaaGreatDoor
namespace Go.Proofs.YtcallmnhaikfpaaGreatDoor
open Go Go.RowKit Go.Deep
def ArgK (n : Nat) (r0 : Rs) (k : Nat) (l : List Val) (r : Rs) : Prop := argsF n [] r0 = argsF (n - k) l r ∧ l.length = k
theorem ArgK.step {n k : Nat} {r0 r : Rs} {l : List Val} (h : ArgK n r0 k l r) (hk : k < n) (hz : ¬ ((takeV r).2.err = 0 ∧ (takeV r).1.kind = 0)) : ArgK n r0 (k + 1) (l ++ [(takeV r).1]) (takeV r).2 := by
  refine ⟨?_, by simp [h.2]⟩
  rw [h.1, show n - k = (n - (k + 1)) + 1 by omega, argsF_succ, if_neg hz]
theorem ArgK.stop {n k : Nat} {r0 r : Rs} {l : List Val} (h : ArgK n r0 k l r) (hk : k < n) (hz : (takeV r).2.err = 0 ∧ (takeV r).1.kind = 0) : argsF n [] r0 = .inr r.at' := by
  rw [h.1, show n - k = (n - (k + 1)) + 1 by omega, argsF_succ, if_pos hz]
theorem Rs.err_back {r : Rs} (h63 : r.b.length < 2 ^ 64) (h : (takeV r).2.err = 0) : r.err = 0 := Classical.byContradiction fun hh => (over_takeV r h63).err hh h
theorem takeV_text (r : Rs) : (takeV r).1.text.size ≤ 9223372036854775807 := by
  have := takeV_ok r
  rcases Val.ok_cases this with e | ⟨-, e⟩ | ⟨-, -, e, -⟩
  · rw [e]; exact Nat.zero_le _
  · rw [e]; exact Nat.zero_le _
  · exact Nat.le_trans e (by decide)
set_option maxRecDepth 10000 in
set_option maxHeartbeats 4000000 in
theorem rqGet_any (w : World) (S : Nat → Prop) (v : Value) (b : Bytes) (h : Rd bytesSh w S [v] b) :
    Calls Tryz.prog 75 #[v] w (GivesRQ w (reqGet b)) := by
  have K1 : Keep No w (w.alloc (.cells #[.int .i64 0, .int .u64 0, .string ⟨#[]⟩, .slice none 0 0] 38)) := (Keep.refl No w).alloc _
  have h1 := h.agree _ K1.agreeNo
  obtain ⟨a0, c0, rfl, -⟩ := bytes_at h
  by_cases hlong : 1024 < b.length
  · have hres : reqGet b = (req0, 1, 0) := by unfold reqGet; rw [if_pos hlong]
    have HR := Lib.hid hres
    have x1 := blk_new w (.cells #[.int .i64 0, .int .u64 0, .string ⟨#[]⟩, .slice none 0 0] 38)
    have q1 := blk_cell x1
    have f1 := blk_fro x1
    have j1 : (1024 : Int) < b.length := by omega
    clear h h1 hlong hres
    generalize reqGet b = res at *
    generalize b.length = bl at *
    go_enter Tryz.func75, Tryz.ntmps75
    go_wp2_with fail
    have y2 := blk_four x1 (.int .i64 0) (.int .u64 0) (.string ⟨#[]⟩) (.slice none 0 0)
    have s2 := blk_cell y2
    have s0 := s2 0
    have s1 := s2 1
    have s3 := s2 2
    have s4 := s2 3
    simp at s0 s1 s3 s4
    refine bodyPost_ret (v := .tuple #[.agg #[.int .i64 0, .int .u64 0, .string ⟨#[]⟩, .slice none 0 0], .int .i64 1, .int .i64 0]) (by simp [results, Tryz.results75, go_sem, s0, s1, s3, s4]) rfl ?_
    rw [HR.out]
    exact ⟨none, 0, 0, rfl, Own.nil _ _ _ _, K1⟩
  · have hnew := (NewReader_any _ S _ b h1 (by omega)).mono (R' := fun e w2 => ∃ B vr, e = .returned (.pointer (some ⟨B, 0, none⟩)) ∧
        RowKit.Hid (w.heap.size + 1 ≤ B ∧ RdrAt 141 w2 B (Fr (w.heap.size + 1) B) vr (Rs.new b) ∧ Keep No w w2 ∧ w2.heap[w.heap.size]? = some (.cells #[.int .i64 0, .int .u64 0, .string ⟨#[]⟩, .slice none 0 0] 38 (0, 0)))) (by
      rintro e w2 ⟨B, vr, rfl, hB, hr, hk⟩
      simp only [World.size_alloc] at hB hr
      exact ⟨B, vr, rfl, hB, hr, K1.trans hk, hk.blk (blk_new w _) (fun x => x)⟩)
    have hcases := fun c t nm rc rt rn rk k => @reqGet_cases b hlong c t nm rc rt rn rk k
    have HX := Lib.hid hcases
    have j1 : ¬ (1024 : Int) < b.length := by omega
    have j2 : b.length ≤ 1024 := by omega
    clear h h1 hlong hcases K1
    generalize reqGet b = res at *
    generalize hbl : b.length = bl at *
    have HBL := Lib.hid hbl
    clear hbl
    go_enter Tryz.func75, Tryz.ntmps75
    go_wp2_with fail
    refine hnew.mono ?_
    clear hnew
    rintro e w2 ⟨B, vr, rfl, H2⟩
    go_wp2_with fail
    refine (Count_any w2 B _ vr _ H2.out.2.1 63 (by omega) (by omega)).mono ?_
    rintro e w3 ⟨rfl, hr3, hk3⟩
    go_wp2_with fail
    refine (Uint_any w3 B _ vr _ hr3).mono ?_
    rintro e w4 ⟨rfl, hr4, hk4⟩
    go_wp2_with fail
    refine (Text_any w4 B _ vr _ hr4 16 (by omega) (by omega)).mono ?_
    rintro e w5 ⟨rfl, hr5, hk5⟩
    have hc63 : ((Rs.new b).count 63).1 ≤ 63 := count_le _ 63
    have htu : ((Rs.new b).count 63).2.uint.1 < 2 ^ 64 := uint_lt hr3.ok
    have htn := text_le ((Rs.new b).count 63).2.uint.2 16
    have hb5 : (((Rs.new b).count 63).2.uint.2.text 16).2.b = b := by rw [text_b, uint_b, count_b]; rfl
    have hk : Keep (One B) w2 w5 := (hk3.trans hk4).trans hk5
    clear hr3 hr4 hk3 hk4 hk5
    generalize hcc : (Rs.new b).count 63 = xc at *
    obtain ⟨c, rc⟩ := xc
    have HCC := Lib.hid hcc
    clear hcc
    simp only at *
    generalize htt : rc.uint = xt at *
    obtain ⟨t, rt⟩ := xt
    have HTT := Lib.hid htt
    clear htt
    simp only at *
    generalize hnn : rt.text 16 = xn at *
    obtain ⟨nm, rn⟩ := xn
    have HNN := Lib.hid hnn
    clear hnn
    simp only at *
    have HG0 : RowKit.Hid (RqGet 141 w w.heap.size B w5.heap.size (w5.heap.size + 1) (Fr (w.heap.size + 1) B) vr b c t nm (w5.alloc (.cells #[.int .i64 c, .int .u64 t, .string nm, .slice none 0 0] 38)) rn (.slice none 0 0) []) := by
      obtain ⟨h1, h2, h3, h4⟩ := H2.out
      have hB := h2.lt
      have hg := (Keep.refl No w5).alloc (.cells #[.int .i64 c, .int .u64 t, .string nm, .slice none 0 0] 38)
      have hs := h3.size
      have hs5 := hk.size
      have h45 := hk.blk h4 (fun e => by have : w.heap.size = B := e; omega)
      have hl4 := blk_lt h4
      exact ⟨(h3.then hk fun i hi e => by have : i = B := e; omega).trans hg, blk_alloc h45, blk_new w5 _, hr5.agree hg, Own.nil _ _ _ _, Nat.le_refl _, by omega, by omega, by omega, by omega, by omega, by omega, fun hf => by have := hf.2; omega, fun k hf => by have := hf.2; omega, hb5, by omega, by omega, by simp⟩
    have HX2 := Lib.hid (HX.out c t nm rc rt rn)
    clear hr5 hk hb5 HX H2
    go_upto_region 5 with fail
    generalize w5.heap.size = F at *
    generalize (w5.alloc (.cells #[.int .i64 c, .int .u64 t, .string nm, .slice none 0 0] 38)) = w6 at *
    generalize (Fr (w.heap.size + 1) B) = Sr at *
    have hs16 : nm.size ≤ 9223372036854775806 := Nat.le_trans htn (by omega)
    have q0 := blk_cell HG0.out.F0
    go_upto_if 30 with (go_at_call 49; refine (isName_any nm hs16 _).mono ?_; rintro e w6 ⟨rfl, rfl⟩)
    generalize hq1 : (if nameOk nm = true then rn else rn.fail 90) = r1 at *
    have HQ1 := Lib.hid hq1
    clear hq1 q0
    go_cut [] (fun wx => RowKit.Hid (RqGet 141 w w.heap.size B F (F + 1) Sr vr b c t nm wx r1 (.slice none 0 0) []))
    case first =>
      cases hx : nameOk nm with
      | true =>
        have HGq : RowKit.Hid (RqGet 141 w w.heap.size B F (F + 1) Sr vr b c t nm w6 r1 (.slice none 0 0) []) := by
          have e := HQ1.out
          rw [hx, if_pos rfl] at e
          rw [← e]; exact HG0.out
        go_wp2_with fail
        go_meet
        case rel => exact HGq
      | false =>
        have hf := Fail_any w6 B _ vr rn HG0.out.rd 90 (by omega) (by omega)
        go_wp2_with (go_at_call 102; refine hf.mono ?_; clear hf; rintro e w7 hr6; obtain ⟨rfl, -⟩ := id hr6; have HGq := Lib.hid (HG0.out.read hr6 (fail_b _ _)); clear hr6)
        go_meet
        case rel =>
          have e := HQ1.out
          rw [hx, if_neg (by simp)] at e
          rw [← e]; exact HGq
    case rest =>
      have HG1 := hcut
      clear hcut HG0
      have hcnt := Count_any wc B _ vr r1 HG1.out.rd 8 (by omega) (by omega)
      have hc8 : (r1.count 8).1 ≤ 8 := count_le _ 8
      have hcb := count_b r1 8
      generalize hkk : r1.count 8 = xk at *
      obtain ⟨k, rk⟩ := xk
      have HKK := Lib.hid hkk
      clear hkk
      simp only at *
      have HX3 := Lib.hid (HX2.out rk k (by first | trivial | rfl | exact HCC.out) (by first | trivial | rfl | exact HTT.out) (by first | trivial | rfl | exact HNN.out) (by first | trivial | rfl | (rw [HQ1.out]; exact HKK.out)))
      clear HX2
      go_wp2_with (go_at_call 43; refine hcnt.mono ?_; clear hcnt; rintro e w7 hr7; obtain ⟨rfl, -⟩ := id hr7; have HG2 := Lib.hid (HG1.out.read hr7 hcb); clear hr7 hcb HG1)
      go_loopg [35] k (fun g i wr => ∃ (j : Nat) (l : List Val) (r : Rs), j ≤ k ∧ g = k - j ∧ i = .int .i64 j ∧ RowKit.Hid (ArgK k rk j l r ∧ ∃ v, RqGet 141 w w.heap.size B F (F + 1) Sr vr b c t nm wr r v l))
      case atStart => exact ⟨0, [], rk, by omega, by omega, rfl, ⟨rfl, rfl⟩, _, HG2⟩
      case round =>
        obtain ⟨j, l, r, hj, rfl, rfl, HR⟩ := hrel
        by_cases hlt : j < k
        · have i1 : (j : Int) < k := by omega
          have i0 : (0 : Int) ≤ j := by omega
          have i3 : (j : Int) ≤ 9223372036854775806 := by omega
          obtain ⟨v, hG⟩ := HR.out.2
          have HA := Lib.hid (And.intro HR.out.1 hlt)
          have HG := Lib.hid hG
          clear hG hlt hj HR HG2
          have hrest := Rest_any wr B _ vr r HG.out.rd
          have hle : r.left ≤ bl := by
            have h1 := HG.out.rb
            unfold Rs.left
            split
            · omega
            · rw [h1, HBL.out]; omega
          have hsub : IntKind.i64.wrap ((bl : Int) - (r.left : Int)) = ((bl - r.left : Nat) : Int) := by rw [IntKind.wrap_i64]; omega
          have HLF := Lib.hid (And.intro hle (show r.left = if r.err ≠ 0 then 0 else r.b.length - r.at' from rfl))
          clear hle
          generalize r.left = lf at *
          go_wp2_with (go_at_call 77; refine hrest.mono ?_; clear hrest; rintro e w8 ⟨M, rfl, rfl⟩)
          have HGd := Lib.hid (HG.out.more ((Keep.refl No wr).drewN M))
          refine (Take_any _ B _ vr r HGd.out.rd).mono ?_
          rintro e w9 hr9
          obtain ⟨rfl, -⟩ := id hr9
          have HG3 := Lib.hid (HGd.out.read hr9 (takeV_b r))
          have hvi := takeV_in r HGd.out.rd.ok
          have hvk := takeV_ok r
          have hstep := fun hz => HA.out.1.step HA.out.2 hz
          have hstop := fun hz => HA.out.1.stop HA.out.2 hz
          have hspec := fun (h0 : (takeV r).2.err = 0) => Rs.err_back (by have := HGd.out.rd.len; omega) h0
          have htx : (takeV r).1.text.size ≤ 9223372036854775807 := takeV_text r
          have HS := Lib.hid (And.intro hstep (And.intro hstop (And.intro hspec (And.intro hvi htx))))
          have HRB := Lib.hid (And.intro HG.out.rb (show r.at' ≤ bl from by have h1 := HG.out.rd.ok.at_le; rw [HG.out.rb, HBL.out] at h1; exact h1))
          clear hr9 hstep hstop hspec HG HGd hvi hvk htx
          dsimp only [Val.agg]
          generalize (takeV r).1 = x at *
          generalize (takeV r).2 = r9 at *
          generalize hx1 : x.kind = x1 at *
          generalize hx2 : x.num = x2 at *
          generalize hx3 : x.text = x3 at *
          have HXX := Lib.hid (And.intro hx1 (And.intro hx2 hx3))
          clear hx1 hx2 hx3
          have HG4 := Lib.hid (HG3.out.more ((Keep.refl No w9).alloc (.cells #[.int .i64 x1, .int .i64 x2, .string x3] 84)))
          have x8 := blk_new w9 (.cells #[.int .i64 x1, .int .i64 x2, .string x3] 84)
          have hwhy := Why_any _ B _ vr r9 HG4.out.rd
          by_cases he : r9.err = 0
          · have hlf : bl - lf = r.at' := by
              have h1 := HLF.out.2
              rw [if_neg (by simpa using HS.out.2.2.1 he), HRB.out.1, HBL.out] at h1
              have := HRB.out.2
              omega
            rw [if_pos he] at hwhy
            by_cases hk0 : x1 = 0
            · have hres := HX3.out.1 _ (HS.out.2.1 ⟨he, hk0⟩)
              have HRES := Lib.hid hres
              rw [he] at hwhy
              subst hk0
              rw [hlf] at *
              clear hres he hlf
              have q2 := blk_cell HG4.out.g0
              have f2 := blk_fro HG4.out.g0
              have q8 := blk_cell x8
              go_wp2_with (go_at_call 44; refine hwhy.mono ?_; clear hwhy; rintro e w10 ⟨M2, rfl, rfl⟩)
              have HG5 := HG4.out.more ((Keep.refl No _).drewN M2)
              have y2 := blk_four HG5.g0 (.int .i64 0) (.int .u64 0) (.string ⟨#[]⟩) (.slice none 0 0)
              have s2 := blk_cell y2
              have s0 := s2 0
              have s1 := s2 1
              have s3 := s2 2
              have s4 := s2 3
              simp at s0 s1 s3 s4
              refine bodyPost_ret (v := .tuple #[.agg #[.int .i64 0, .int .u64 0, .string ⟨#[]⟩, .slice none 0 0], .int .i64 91, .int .i64 r.at']) (by simp [results, Tryz.results75, go_sem, s0, s1, s3, s4]) rfl ?_
              rw [HRES.out]
              exact ⟨none, 0, 0, rfl, Own.nil _ _ _ _, (HG5.done _ _ _ _).2⟩
            · have hz := HS.out.1 (fun h => hk0 h.2)
              have HZ := Lib.hid hz
              have d2 : (x1 == 0) = false := by simpa using hk0
              have hkl : l.length + 1 ≤ 1048576 := by have := HA.out.1.2; have := HA.out.2; omega
              rw [he] at hwhy
              have q8 := blk_cell x8
              clear hz he hk0 hlf
              go_upto_region 14 with (go_at_call 44; refine hwhy.mono ?_; clear hwhy; rintro e w10 ⟨M2, rfl, rfl⟩)
              have HG5 := Lib.hid (HG4.out.more ((Keep.refl No _).drewN M2))
              have x9 : ((w9.alloc (.cells #[.int .i64 x1, .int .i64 x2, .string x3] 84)).drewN M2).heap[w9.heap.size]? = some (.cells #[.int .i64 x1, .int .i64 x2, .string x3] 84 (0, 0)) := x8
              generalize ((w9.alloc (.cells #[.int .i64 x1, .int .i64 x2, .string x3] 84)).drewN M2) = w10 at *
              clear x8 HG4
              obtain ⟨av, cv, hv, -⟩ := Own.form HG5.out.own
              subst hv
              obtain ⟨a3, c3, w11, hrun, h11, hk11⟩ := HG5.out.own.app HG5.out.low x HS.out.2.2.2.1 (by rw [HXX.out.2.2]; exact HS.out.2.2.2.2) hkl
              rw [HXX.out.1, HXX.out.2.1, HXX.out.2.2] at hrun
              have HG6 := Lib.hid (HG5.out.grow hk11 h11)
              have hF11 := hk11.blk HG5.out.F0 (fun hf => by have := hf.1; omega)
              have q11 := blk_cell hF11
              have z11 := blk_fro hF11
              have q10 := blk_cell HG5.out.F0
              have q9 := blk_cell x9
              clear h11 hk11 hF11 x9 hkl
              generalize l.length = m1 at *
              go_wp2_with (at_builtin; refine wpList_app rfl (.tmp 59) (.tmp 61) 36 36 rfl rfl rfl hrun ?_)
              go_roundg (k - (j + 1))
              case measure => have := HA.out.2; omega
              case rel => exact ⟨j + 1, _, _, by have := HA.out.2; omega, rfl, by simp, HZ.out, _, HG6⟩
          · rw [if_neg he] at hwhy
            have d1 : (r9.err == 0) = false := by simpa using he
            have hz := HS.out.1 (fun h => he h.1)
            have HZ := Lib.hid hz
            have hkl : l.length + 1 ≤ 1048576 := by have := HA.out.1.2; have := HA.out.2; omega
            have q8 := blk_cell x8
            clear hz he
            go_upto_region 14 with (go_at_call 44; refine hwhy.mono ?_; clear hwhy; rintro e w10 ⟨M2, rfl, rfl⟩)
            have HG5 := Lib.hid (HG4.out.more ((Keep.refl No _).drewN M2))
            have x9 : ((w9.alloc (.cells #[.int .i64 x1, .int .i64 x2, .string x3] 84)).drewN M2).heap[w9.heap.size]? = some (.cells #[.int .i64 x1, .int .i64 x2, .string x3] 84 (0, 0)) := x8
            generalize ((w9.alloc (.cells #[.int .i64 x1, .int .i64 x2, .string x3] 84)).drewN M2) = w10 at *
            clear x8 HG4
            obtain ⟨av, cv, hv, -⟩ := Own.form HG5.out.own
            subst hv
            obtain ⟨a3, c3, w11, hrun, h11, hk11⟩ := HG5.out.own.app HG5.out.low x HS.out.2.2.2.1 (by rw [HXX.out.2.2]; exact HS.out.2.2.2.2) hkl
            rw [HXX.out.1, HXX.out.2.1, HXX.out.2.2] at hrun
            have HG6 := Lib.hid (HG5.out.grow hk11 h11)
            have hF11 := hk11.blk HG5.out.F0 (fun hf => by have := hf.1; omega)
            have q11 := blk_cell hF11
            have z11 := blk_fro hF11
            have q10 := blk_cell HG5.out.F0
            have q9 := blk_cell x9
            clear h11 hk11 hF11 x9 hkl
            generalize l.length = m1 at *
            go_wp2_with (at_builtin; refine wpList_app rfl (.tmp 59) (.tmp 61) 36 36 rfl rfl rfl hrun ?_)
            go_roundg (k - (j + 1))
            case measure => have := HA.out.2; omega
            case rel => exact ⟨j + 1, _, _, by have := HA.out.2; omega, rfl, by simp, HZ.out, _, HG6⟩
        · obtain rfl : j = k := by omega
          have i1 : ¬ (j : Int) < j := by omega
          obtain ⟨v, hG⟩ := HR.out.2
          have hres := HX3.out.2 l r (by have h1 := HR.out.1.1; rw [Nat.sub_self] at h1; exact h1)
          have HRES := Lib.hid hres
          have HG := Lib.hid hG
          clear hG hlt hj HR HG2 hres
          have hend := End_any wr B _ vr r HG.out.rd
          have hre := end_b r
          generalize r.end' = r9 at *
          by_cases he : r9.err = 0
          · have hr : res = (mkReq c t nm l, 0, 0) := by have h1 := HRES.out; rw [if_neg (by simpa using he)] at h1; exact h1
            rw [he] at hend
            have HR2 := Lib.hid hr
            clear he hr HRES
            obtain ⟨av, cv, hv, -⟩ := Own.form HG.out.own
            subst hv
            go_upto_region 20 with (go_at_call 47; refine hend.mono ?_; clear hend; rintro e w7 hr7; obtain ⟨rfl, -⟩ := id hr7; have HG3 := Lib.hid (HG.out.read hr7 hre); clear hr7 hre HG)
            have q2 := blk_cell HG3.out.g0
            have f2 := blk_fro HG3.out.g0
            have q3 := blk_cell HG3.out.F0
            generalize l.length = m1 at *
            go_wp2_with fail
            have y2 := blk_four HG3.out.g0 (.int .i64 c) (.int .u64 t) (.string nm) (.slice av m1 cv)
            have s2 := blk_cell y2
            have s0 := s2 0
            have s1 := s2 1
            have s3 := s2 2
            have s4 := s2 3
            simp at s0 s1 s3 s4
            refine bodyPost_ret (v := .tuple #[.agg #[.int .i64 c, .int .u64 t, .string nm, .slice av m1 cv], .int .i64 0, .int .i64 0]) (by simp [results, Tryz.results75, go_sem, s0, s1, s3, s4]) rfl ?_
            rw [HR2.out]
            have hd := HG3.out.done (.int .i64 c) (.int .u64 t) (.string nm) (.slice av m1 cv)
            exact ⟨av, m1, cv, rfl, hd.1, hd.2⟩
          · have hr : res = (req0, r9.err, r9.spot) := by have h1 := HRES.out; rw [if_pos he] at h1; exact h1
            have HR2 := Lib.hid hr
            have d1 : (r9.err != 0) = true := by simpa using he
            have hwe : (if r9.err = 0 then (0 : Int) else (r9.spot : Int)) = r9.spot := if_neg he
            clear he hr HRES
            go_upto_region 18 with (go_at_call 47; refine hend.mono ?_; clear hend; rintro e w7 hr7; obtain ⟨rfl, -⟩ := id hr7; have HG3 := Lib.hid (HG.out.read hr7 hre); clear hr7 hre HG)
            have hwhy := Why_any w7 B _ vr r9 HG3.out.rd
            rw [hwe] at hwhy
            have q2 := blk_cell HG3.out.g0
            have f2 := blk_fro HG3.out.g0
            clear hwe
            go_wp2_with (go_at_call 44; refine hwhy.mono ?_; clear hwhy; rintro e w8 ⟨M2, rfl, rfl⟩)
            have HG5 := HG3.out.more ((Keep.refl No _).drewN M2)
            have y2 := blk_four HG5.g0 (.int .i64 0) (.int .u64 0) (.string ⟨#[]⟩) (.slice none 0 0)
            have s2 := blk_cell y2
            have s0 := s2 0
            have s1 := s2 1
            have s3 := s2 2
            have s4 := s2 3
            simp at s0 s1 s3 s4
            refine bodyPost_ret (v := .tuple #[.agg #[.int .i64 0, .int .u64 0, .string ⟨#[]⟩, .slice none 0 0], .int .i64 r9.err, .int .i64 r9.spot]) (by simp [results, Tryz.results75, go_sem, s0, s1, s3, s4]) rfl ?_
            rw [HR2.out]
            exact ⟨none, 0, 0, rfl, Own.nil _ _ _ _, (HG5.done _ _ _ _).2⟩
end Go.Proofs.YtcallmnhaikfpaaGreatDoor
