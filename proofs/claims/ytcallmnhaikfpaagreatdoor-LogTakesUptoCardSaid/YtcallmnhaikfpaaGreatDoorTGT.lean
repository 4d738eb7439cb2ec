/-
  Parts of what is proved for this claim; each declaration is one of the seat's texts.
-/
import Derived.Test.YtcallmnhaikfpaaGreatDoorTGA
import Derived.Test.YtcallmnhaikfpaaGreatDoorTGB
import Derived.Test.YtcallmnhaikfpaaGreatDoorTGC
import Derived.Test.YtcallmnhaikfpaaGreatDoorTGD
import Derived.Test.YtcallmnhaikfpaaGreatDoorTGF
import Derived.Test.YtcallmnhaikfpaaGreatDoorTGG
import Derived.Test.YtcallmnhaikfpaaGreatDoorTGH
import Derived.Test.YtcallmnhaikfpaaGreatDoorTGI
import Derived.Test.YtcallmnhaikfpaaGreatDoorTGK
import Derived.Test.YtcallmnhaikfpaaGreatDoorTGL
import Derived.Test.YtcallmnhaikfpaaGreatDoorTGM
import Derived.Test.YtcallmnhaikfpaaGreatDoorTGN
import Derived.Test.YtcallmnhaikfpaaGreatDoorTGO
import Derived.Still
import Derived.StillTactics
import Derived.WalkKit
import Derived.WalkSpells
import Derived.WalkLawsBesides
import Derived.ProofKit
import Derived.Deep.Slices
import Derived.Deep.AppendSrc
import Derived.Lib.Hide
import Derived.Recover
import Derived.Defers
import Derived.Deep.QuietTactic
import Derived.BigQuiet
import Derived.Handy
import Derived.Laws.Bits64b
import Derived.Lib.Zigzag
import Derived.OwnWalk
import Derived.Deep.DeepCutAuto
import Derived.Lib.Bytealg
import Derived.Laws.Externs
import Derived.Laws.CopyRow
import Derived.Laws.IdiomCopy
import Derived.Maps.OwnSet
import Derived.Maps.RangeWalk
import Derived.Shelf.SortM.Plain
import Derived.Shelf.SortM.SortNone
import Derived.Ground.SlgmProg
import Derived.Maps.OwnOps
import Derived.Deep.LoopGhost
set_option linter.unusedVariables false
set_option linter.unusedSimpArgs false
namespace Go.Proofs.YtcallmnhaikfpaaGreatDoor
open Go Go.RowKit Go.Deep
def TwoT (lo : Nat) (w : World) (u v : Value) (f : Fp) : Prop :=
  ∃ A B : Nat → Prop, Own .str 9 w A u f.rs ∧ Own .str 9 w B v f.ws ∧ (∀ k, A k → Fr lo w.heap.size k ∧ ¬ B k) ∧ ∀ k, B k → Fr lo w.heap.size k
theorem TwoT.nil (lo : Nat) (w : World) : TwoT lo w (.slice none 0 0) (.slice none 0 0) (mkFp [] []) := ⟨No, No, Own.nil _ _ _ _, Own.nil _ _ _ _, fun _ h => h.elim, fun _ h => h.elim⟩
theorem TwoT.keep {lo : Nat} {w w' : World} {u v : Value} {f : Fp} (h : TwoT lo w u v f) {M : Nat → Prop} (hk : Keep M w w') (hM : ∀ i, lo ≤ i → ¬ M i) : TwoT lo w' u v f := by
  obtain ⟨A, B, h1, h2, h3, h4⟩ := h
  refine ⟨A, B, h1.agree (hk.agree fun i _ hi hm => hM i (h3 i hi).1.1 hm), h2.agree (hk.agree fun i _ hi hm => hM i (h4 i hi).1 hm), fun k hA => ⟨⟨(h3 k hA).1.1, Nat.lt_of_lt_of_le (h3 k hA).1.2 hk.size⟩, (h3 k hA).2⟩, fun k hB => ⟨(h4 k hB).1, Nat.lt_of_lt_of_le (h4 k hB).2 hk.size⟩⟩
theorem own_one {w : World} {A : Nat → Prop} {v : Value} {l : List ByteArray} (h : Own .str 9 w A v l) (x : ByteArray) (h0 : x.size ≤ maxLen) (hl : l.length + 1 ≤ 8796093022208) :
    ∃ a c w', (Builtin.append_ #[39, 39] 39 #[v, .slice (some ⟨w.heap.size, 0, none⟩) 1 1]).run Tryz.prog (w.alloc (.cells #[.string x] 9)) = .ok (.slice a (l.length + 1) c) w' ∧ Own .str 9 w' (fun k => (A k ∨ k = w.heap.size + 1) ∧ k < w'.heap.size) (.slice a (l.length + 1) c) (l ++ [x]) ∧ Keep A w w' := by
  obtain ⟨i0, hi, hz0, hz1, hz2⟩ := info_parts Tryz.infoText
  have h1 : Own .str 9 (w.alloc (.cells #[.string x] 9)) A v l := Own.agree h ((Keep.refl No w).alloc _).agreeNo
  obtain ⟨a, c, w', hr, ho, hk, hs⟩ := Own.append (P := Tryz.prog) (T := No) h1 39 39 i0 _ 16 Tryz.underlying39 hi hz0 hz1 hz2 rfl (blk_new w _) (x := x) ⟨by simp, h0⟩ (fun k _ x => x) (by omega) (by omega) 1
  refine ⟨a, c, w', hr, Own.mono ho.live fun k hk' => ?_, ((Keep.refl _ w).alloc _).then hk fun i _ hi => hi⟩
  obtain ⟨h1 | h1 | h1, h2⟩ := hk'
  · exact ⟨.inl h1, h2⟩
  · exact h1.elim
  · simp only [World.size_alloc] at h1; exact ⟨.inr h1, h2⟩
theorem TwoT.appA {lo : Nat} {w : World} {u v : Value} {f : Fp} (h : TwoT lo w u v f) (hlo : lo ≤ w.heap.size) (x : ByteArray) (h0 : x.size ≤ maxLen) (hl : f.rs.length + 1 ≤ 8796093022208) :
    ∃ a c w', (Builtin.append_ #[39, 39] 39 #[u, .slice (some ⟨w.heap.size, 0, none⟩) 1 1]).run Tryz.prog (w.alloc (.cells #[.string x] 9)) = .ok (.slice a (f.rs.length + 1) c) w' ∧ TwoT lo w' (.slice a (f.rs.length + 1) c) v (mkFp (f.rs ++ [x]) f.ws) ∧ Keep (Fr lo w.heap.size) w w' := by
  obtain ⟨A, B, h1, h2, h3, h4⟩ := h
  obtain ⟨a, c, w', hr, ho, hk⟩ := own_one h1 x h0 hl
  refine ⟨a, c, w', hr, ⟨_, B, ho, h2.agree (hk.agree fun i _ hi hm => (h3 i hm).2 hi), fun k hk' => ?_, fun k hB => ⟨(h4 k hB).1, Nat.lt_of_lt_of_le (h4 k hB).2 hk.size⟩⟩, hk.mono fun k _ hA => (h3 k hA).1⟩
  obtain ⟨h5 | h5, h6⟩ := hk'
  · exact ⟨⟨(h3 k h5).1.1, h6⟩, (h3 k h5).2⟩
  · exact ⟨⟨by omega, h6⟩, fun hB => by have := (h4 k hB).2; omega⟩
theorem TwoT.appB {lo : Nat} {w : World} {u v : Value} {f : Fp} (h : TwoT lo w u v f) (hlo : lo ≤ w.heap.size) (x : ByteArray) (h0 : x.size ≤ maxLen) (hl : f.ws.length + 1 ≤ 8796093022208) :
    ∃ a c w', (Builtin.append_ #[39, 39] 39 #[v, .slice (some ⟨w.heap.size, 0, none⟩) 1 1]).run Tryz.prog (w.alloc (.cells #[.string x] 9)) = .ok (.slice a (f.ws.length + 1) c) w' ∧ TwoT lo w' u (.slice a (f.ws.length + 1) c) (mkFp f.rs (f.ws ++ [x])) ∧ Keep (Fr lo w.heap.size) w w' := by
  obtain ⟨A, B, h1, h2, h3, h4⟩ := h
  obtain ⟨a, c, w', hr, ho, hk⟩ := own_one h2 x h0 hl
  refine ⟨a, c, w', hr, ⟨A, _, h1.agree (hk.agree fun i _ hi hm => (h3 i hi).2 hm), ho, fun k hA => ⟨⟨(h3 k hA).1.1, Nat.lt_of_lt_of_le (h3 k hA).1.2 hk.size⟩, fun hB => ?_⟩, fun k hk' => ?_⟩, hk.mono fun k _ hB => h4 k hB⟩
  · obtain ⟨h5 | h5, h6⟩ := hB
    · exact (h3 k hA).2 h5
    · have := (h3 k hA).1.2; omega
  · obtain ⟨h5 | h5, h6⟩ := hk'
    · exact ⟨(h4 k h5).1, h6⟩
    · exact ⟨by omega, h6⟩
theorem TwoT.form {lo : Nat} {w : World} {u v : Value} {f : Fp} (h : TwoT lo w u v f) : ∃ a c a' c', u = .slice a f.rs.length c ∧ v = .slice a' f.ws.length c' := by
  obtain ⟨A, B, h1, h2, -⟩ := h
  obtain ⟨a, c, e, -⟩ := h1.form
  obtain ⟨a', c', e', -⟩ := h2.form
  exact ⟨a, c, a', c', e, e'⟩
theorem TwoT.own {w0 lo : Nat} {w w' : World} {u v : Value} {f : Fp} (h : TwoT lo w' u v f) (hlo : w.heap.size ≤ lo) (hk : Keep No w w') : OwnF w w' u v f := by
  obtain ⟨A, B, h1, h2, h3, h4⟩ := h
  exact ⟨⟨h1.mono fun k hA => ⟨Nat.le_trans hlo (h3 k hA).1.1, (h3 k hA).1.2⟩, hk⟩, ⟨h2.mono fun k hB => ⟨Nat.le_trans hlo (h4 k hB).1, (h4 k hB).2⟩, hk⟩⟩
structure GetAt (T : TypeId) (w : World) (g B F lo : Nat) (S : Nat → Prop) (vr : Value) (b : Bytes) (wr : World) (r : Rs) (u v : Value) (f : Fp) : Prop where
  keep : Keep No w wr
  g0 : wr.heap[g]? = some (.cells #[.slice none 0 0, .slice none 0 0] 41 (0, 0))
  F0 : wr.heap[F]? = some (.cells #[u, v] 41 (0, 0))
  rd : RdrAt T wr B S vr r
  two : TwoT lo wr u v f
  gw : w.heap.size ≤ g
  gB : g ≠ B
  gF : g ≠ F
  FB : F ≠ B
  glo : g < lo
  Blo : B < lo
  Flo : F < lo
  FS : ¬ S F
  Slo : ∀ k, S k → k < lo
  rb : r.b = b
  Bw : w.heap.size ≤ B
  Fw : w.heap.size ≤ F
  low : lo ≤ wr.heap.size
theorem GetAt.read {T : TypeId} {w : World} {g B F lo : Nat} {S : Nat → Prop} {vr : Value} {b : Bytes} {wr : World} {r : Rs} {u v : Value} {f : Fp} (h : GetAt T w g B F lo S vr b wr r u v f) {x : Value} {r' : Rs} {e : Ending} {w' : World} (hr : Reads T wr B S vr x r' e w') (hb : r'.b = r.b) :
    GetAt T w g B F lo S vr b w' r' u v f := by
  obtain ⟨-, h1, hk⟩ := hr
  have hB := h.Bw
  exact { h with
    keep := h.keep.then hk fun i hi e => by have : i = B := e; omega
    g0 := hk.blk h.g0 (fun e => h.gB e)
    F0 := hk.blk h.F0 (fun e => h.FB e)
    rd := h1
    two := h.two.keep hk fun i hi e => by have : i = B := e; have := h.Blo; omega
    rb := hb.trans h.rb
    low := Nat.le_trans h.low hk.size }
theorem GetAt.drewN {T : TypeId} {w : World} {g B F lo : Nat} {S : Nat → Prop} {vr : Value} {b : Bytes} {wr : World} {r : Rs} {u v : Value} {f : Fp} (h : GetAt T w g B F lo S vr b wr r u v f) (n : Nat) : GetAt T w g B F lo S vr b (wr.drewN n) r u v f :=
  { h with keep := h.keep.drewN n, g0 := h.g0, F0 := h.F0, rd := h.rd.drewN n, two := h.two.keep ((Keep.refl No wr).drewN n) (fun _ _ x => x), low := h.low }
theorem Rd.lowT {s : Sh} {w w' : World} {S : Nat → Prop} {cs : List Value} {x : s.T} (h : Rd s w S cs x) {M : Nat → Prop} (hk : Keep M w w') (hM : ∀ i, S i → ¬ M i) : Rd s w' S cs x := h.agree _ (hk.agree fun i _ hi => hM i hi)
theorem GetAt.grow {T : TypeId} {w : World} {g B F lo : Nat} {S : Nat → Prop} {vr : Value} {b : Bytes} {wr w2 : World} {r : Rs} {u v u' v' : Value} {f f' : Fp} (h : GetAt T w g B F lo S vr b wr r u v f) (hk : Keep (Fr lo wr.heap.size) wr w2) (h2 : TwoT lo w2 u' v' f') (i : Nat) (x : Value)
    (hF : (#[u, v] : Array Value).setIfInBounds i x = #[u', v']) : GetAt T w g B F lo S vr b (w2.setCell ⟨F, i, none⟩ x) r u' v' f' := by
  have n1 : ∀ k, k < lo → ¬ Fr lo wr.heap.size k := fun k hk hf => by have := hf.1; omega
  have hF2 := hk.blk h.F0 (n1 F h.Flo)
  have hset := blk_set hF2 i x
  rw [hF] at hset
  have ks := keep_set w2 F i x
  have hr2 : RdrAt T w2 B S vr r := ⟨hk.blk h.rd.blk (n1 B h.Blo), h.rd.rd.lowT hk (fun k hS => n1 k (h.Slo k hS)), h.rd.nB, h.rd.ok, h.rd.pl⟩
  have hsz := hk.size
  have hlow := h.low
  exact { h with
    keep := (h.keep.then hk fun k hkw hf => by have := hf.1; have := h.Flo; have := h.Fw; omega).then ks fun k hkw e => by have : k = F := e; have := h.Fw; omega
    g0 := ks.blk (hk.blk h.g0 (n1 g h.glo)) (fun e => h.gF e)
    F0 := hset
    rd := ⟨ks.blk hr2.blk (fun e => h.FB (show B = F from e).symm), hr2.rd.lowT ks (fun k hS e => h.FS (by cases (show k = F from e); exact hS)), hr2.nB, hr2.ok, hr2.pl⟩
    two := h2.keep ks fun k hk e => by have : k = F := e; have := h.Flo; omega
    low := by simp; omega }
end Go.Proofs.YtcallmnhaikfpaaGreatDoor
namespace Go.Proofs.YtcallmnhaikfpaaGreatDoor
open Go Go.RowKit Go.Deep
theorem text_b (r : Rs) (m : Int) : (r.text m).2.b = r.b := by
  unfold Rs.text
  split
  · rfl
  split
  · rfl
  split <;> rfl
theorem byte_b (r : Rs) : r.byte.2.b = r.b := by unfold Rs.byte; split; rfl; split <;> rfl
theorem count_b (r : Rs) (m : Int) : (r.count m).2.b = r.b := by
  unfold Rs.count
  split
  · rfl
  split <;> rfl
theorem fail_b (r : Rs) (e : Int) : (r.fail e).b = r.b := by unfold Rs.fail; split <;> rfl
def GivesFN (w : World) (x : Fp × Nat × Int) (e : Ending) (w' : World) : Prop := ∃ a n c a' n' c', e = .returned (.tuple #[.agg #[.slice a n c, .slice a' n' c'], .int .i64 x.2.1, .int .i64 x.2.2]) ∧ OwnF w w' (.slice a n c) (.slice a' n' c') x.1 ∧ Keep No w w'
theorem bit1_all : ∀ c : Fin 256, (bits BinOp.and .u8 ((c.val : Nat) : Int) 1 != 0) = decide (((c.val : Nat) : Int) % 2 = 1) := by decide +kernel
theorem bit2_all : ∀ c : Fin 256, (bits BinOp.and .u8 ((c.val : Nat) : Int) 2 != 0) = decide (2 ≤ ((c.val : Nat) : Int) % 4) := by decide +kernel
theorem bit1 {c : Int} (h0 : 0 ≤ c) (h1 : c < 256) : (bits BinOp.and .u8 c 1 != 0) = decide (c % 2 = 1) := by
  obtain ⟨n, rfl⟩ : ∃ n : Nat, c = n := ⟨c.toNat, by omega⟩
  exact bit1_all ⟨n, by omega⟩
theorem bit2 {c : Int} (h0 : 0 ≤ c) (h1 : c < 256) : (bits BinOp.and .u8 c 2 != 0) = decide (2 ≤ c % 4) := by
  obtain ⟨n, rfl⟩ : ∃ n : Nat, c = n := ⟨c.toNat, by omega⟩
  exact bit2_all ⟨n, by omega⟩
theorem len_if (p : Prop) [Decidable p] (l : List ByteArray) (s : ByteArray) {k : Nat} (h : l.length ≤ k) : (if p then l ++ [s] else l).length ≤ k + 1 := by
  split
  · simp; omega
  · omega
def GetK (n : Nat) (r0 : Rs) (k : Nat) (f : Fp) (last : ByteArray) (r : Rs) : Prop := keysF n (mkFp [] []) noText r0 = keysF (n - k) f last r ∧ f.rs.length ≤ k ∧ f.ws.length ≤ k
theorem GetK.step {n k : Nat} {r0 r : Rs} {f : Fp} {last : ByteArray} (h : GetK n r0 k f last r) (hk : k < n) : GetK n r0 (k + 1) (keyStep f last r).1 (keyStep f last r).2.1 (keyStep f last r).2.2 := by
  obtain ⟨h1, h2, h3⟩ := h
  refine ⟨?_, ?_, ?_⟩
  · rw [h1, show n - k = (n - (k + 1)) + 1 by omega, keysF_succ]
  · exact len_if _ _ _ h2
  · exact len_if _ _ _ h3
theorem GetAt.done {T : TypeId} {w : World} {g B F lo : Nat} {S : Nat → Prop} {vr : Value} {b : Bytes} {wr : World} {r : Rs} {u v : Value} {f : Fp} (h : GetAt T w g B F lo S vr b wr r u v f) :
    OwnF w ((wr.setCell ⟨g, 0, none⟩ u).setCell ⟨g, 1, none⟩ v) u v f ∧ Keep No w ((wr.setCell ⟨g, 0, none⟩ u).setCell ⟨g, 1, none⟩ v) := by
  have ks := keep_two wr g u v
  have hk := h.keep.setNew2 h.gw u v
  have ht := h.two.keep ks (fun i hi e => by have : i = g := e; have := h.glo; omega)
  exact ⟨ht.own (w0 := 0) (by have := h.glo; have := h.gw; omega) hk, hk⟩
set_option maxRecDepth 10000 in
set_option maxHeartbeats 4000000 in
theorem fGet_any (w : World) (S : Nat → Prop) (v : Value) (b : Bytes) (h : Rd bytesSh w S [v] b) (hl : b.length ≤ 140737488355328) :
    Calls Tryz.prog 76 #[v] w (GivesFN w (footGet b)) := by
  have K1 : Keep No w (w.alloc (.cells #[.slice none 0 0, .slice none 0 0] 41)) := (Keep.refl No w).alloc _
  have hnew := (NewReader_any _ S v b (h.agree _ K1.agreeNo) hl).mono (R' := fun e w2 => ∃ B vr, e = .returned (.pointer (some ⟨B, 0, none⟩)) ∧
      RowKit.Hid (w.heap.size + 1 ≤ B ∧ RdrAt 141 w2 B (Fr (w.heap.size + 1) B) vr (Rs.new b) ∧ Keep No w w2 ∧ w2.heap[w.heap.size]? = some (.cells #[.slice none 0 0, .slice none 0 0] 41 (0, 0)))) (by
    rintro e w2 ⟨B, vr, rfl, hB, hr, hk⟩
    simp only [World.size_alloc] at hB hr
    exact ⟨B, vr, rfl, hB, hr, K1.trans hk, hk.blk (blk_new w _) (fun x => x)⟩)
  obtain ⟨a0, c0, rfl, -⟩ := bytes_at h
  have h63 : b.length ≤ 140737488355328 := hl
  clear h K1 hl
  generalize hbl : b.length = bl at *
  have HBL := Lib.hid hbl
  clear hbl
  go_enter Tryz.func76, Tryz.ntmps76
  go_wp2_with fail
  refine hnew.mono ?_
  clear hnew
  rintro e w2 ⟨B, vr, rfl, H2⟩
  go_wp2_with fail
  have HG0 : RowKit.Hid (GetAt 141 w w.heap.size B w2.heap.size (w2.heap.size + 1) (Fr (w.heap.size + 1) B) vr b (w2.alloc (.cells #[.slice none 0 0, .slice none 0 0] 41)) (Rs.new b) (.slice none 0 0) (.slice none 0 0) (mkFp [] [])) := by
    obtain ⟨h1, h2, h3, h4⟩ := H2.out
    have hB := h2.lt
    have hk := (Keep.refl No w2).alloc (.cells #[.slice none 0 0, .slice none 0 0] 41)
    have hs := h3.size
    exact ⟨h3.trans hk, blk_alloc h4, blk_new w2 _, h2.agree hk, TwoT.nil _ _, Nat.le_refl _, by omega, by have := blk_lt h4; omega, by omega, by have := blk_lt h4; omega, by omega, by omega, fun hf => by have := hf.2; omega, fun k hf => by have := hf.2; omega, rfl, by omega, by omega, by simp⟩
  generalize w2.heap.size = F at *
  generalize (w2.alloc (.cells #[.slice none 0 0, .slice none 0 0] 41)) = w3 at *
  clear H2
  generalize (Fr (w.heap.size + 1) B) = Sr at *
  refine (Count_any w3 B _ vr _ HG0.out.rd 64 (by omega) (by omega)).mono ?_
  rintro e w4 hr4
  obtain ⟨rfl, -⟩ := id hr4
  have HG1 := Lib.hid (HG0.out.read hr4 (count_b _ _))
  have hn64 : ((Rs.new b).count 64).1 ≤ 64 := count_le _ 64
  have HX : RowKit.Hid (footGet b = if (keysF ((Rs.new b).count 64).1 (mkFp [] []) noText ((Rs.new b).count 64).2).2.err ≠ 0 then (mkFp [] [], 0, (keysF ((Rs.new b).count 64).1 (mkFp [] []) noText ((Rs.new b).count 64).2).2.err) else ((keysF ((Rs.new b).count 64).1 (mkFp [] []) noText ((Rs.new b).count 64).2).1, (keysF ((Rs.new b).count 64).1 (mkFp [] []) noText ((Rs.new b).count 64).2).2.at', 0)) := rfl
  clear hr4 HG0
  generalize footGet b = res at *
  generalize ((Rs.new b).count 64).1 = n at *
  generalize ((Rs.new b).count 64).2 = r0 at *
  go_wp2_with fail
  go_loopg [7, 16] n (fun g s i wr => ∃ (k : Nat) (f : Fp) (last : ByteArray) (r : Rs), k ≤ n ∧ g = n - k ∧ i = .int .i64 k ∧ s = .string last ∧ RowKit.Hid (GetK n r0 k f last r ∧ ∃ u v, GetAt 141 w w.heap.size B F (F + 1) Sr vr b wr r u v f))
  case atStart => exact ⟨0, _, _, _, by omega, by omega, rfl, rfl, ⟨⟨rfl, by simp [mkFp], by simp [mkFp]⟩, _, _, HG1⟩⟩
  case round =>
    obtain ⟨k, f, last, r, hk, rfl, rfl, rfl, HR⟩ := hrel
    by_cases hlt : k < n
    · have j1 : (k : Int) < n := by omega
      have j0 : (0 : Int) ≤ k := by omega
      have j3 : (k : Int) ≤ 9223372036854775806 := by omega
      obtain ⟨u, v, hG⟩ := HR.out.2
      have HS := Lib.hid (And.intro (HR.out.1.step hlt) (And.intro hlt hG))
      have HFL := Lib.hid HR.out.1.2
      clear hG hlt hk HR
      go_wp2_with fail
      refine (Text_any _ B _ vr r HS.out.2.2.rd 32 (by omega) (by omega)).mono ?_
      rintro e w5 hr5
      obtain ⟨rfl, -⟩ := id hr5
      have HG := Lib.hid (HS.out.2.2.read hr5 (text_b _ _))
      have hs32 : (r.text 32).1.size ≤ 9223372036854775807 := Nat.le_trans (text_le r 32) (by omega)
      have HK : RowKit.Hid (GetK n r0 (k + 1) (mkFp (if (if ltT last (r.text 32).1 = true then (if keyOk (r.text 32).1 = true then (r.text 32).2 else (r.text 32).2.fail 30) else (if keyOk (r.text 32).1 = true then (r.text 32).2 else (r.text 32).2.fail 30).fail 31).byte.1 % 2 = 1 then f.rs ++ [(r.text 32).1] else f.rs) (if 2 ≤ (if ltT last (r.text 32).1 = true then (if keyOk (r.text 32).1 = true then (r.text 32).2 else (r.text 32).2.fail 30) else (if keyOk (r.text 32).1 = true then (r.text 32).2 else (r.text 32).2.fail 30).fail 31).byte.1 % 4 then f.ws ++ [(r.text 32).1] else f.ws)) (r.text 32).1
          (if 1 ≤ (if ltT last (r.text 32).1 = true then (if keyOk (r.text 32).1 = true then (r.text 32).2 else (r.text 32).2.fail 30) else (if keyOk (r.text 32).1 = true then (r.text 32).2 else (r.text 32).2.fail 30).fail 31).byte.1 ∧ (if ltT last (r.text 32).1 = true then (if keyOk (r.text 32).1 = true then (r.text 32).2 else (r.text 32).2.fail 30) else (if keyOk (r.text 32).1 = true then (r.text 32).2 else (r.text 32).2.fail 30).fail 31).byte.1 ≤ 3 then (if ltT last (r.text 32).1 = true then (if keyOk (r.text 32).1 = true then (r.text 32).2 else (r.text 32).2.fail 30) else (if keyOk (r.text 32).1 = true then (r.text 32).2 else (r.text 32).2.fail 30).fail 31).byte.2 else (if ltT last (r.text 32).1 = true then (if keyOk (r.text 32).1 = true then (r.text 32).2 else (r.text 32).2.fail 30) else (if keyOk (r.text 32).1 = true then (r.text 32).2 else (r.text 32).2.fail 30).fail 31).byte.2.fail 31)) := HS.out.1
      have HL := Lib.hid HS.out.2.1
      clear hr5 HS
      generalize (r.text 32).1 = s at *
      generalize (r.text 32).2 = rt at *
      go_upto_if 22 with (go_at_call 90; refine (keyOk_any s hs32 _).mono ?_; rintro e w5 ⟨rfl, rfl⟩)
      generalize hq1 : (if keyOk s = true then rt else rt.fail 30) = q1 at *
      have HQ1 := Lib.hid hq1
      clear hq1
      go_cut [] (fun wx => RowKit.Hid (GetAt 141 w w.heap.size B F (F + 1) Sr vr b wx q1 u v f))
      case first =>
        cases hx : keyOk s with
        | true =>
          have HGq : RowKit.Hid (GetAt 141 w w.heap.size B F (F + 1) Sr vr b w5 q1 u v f) := by
            have e := HQ1.out
            rw [hx, if_pos rfl] at e
            rw [← e]; exact HG.out
          go_wp2_with fail
          go_meet
          case rel => exact HGq
        | false =>
          have hf := Fail_any w5 B _ vr rt HG.out.rd 30 (by omega) (by omega)
          go_wp2_with ((go_at_call 102; refine hf.mono ?_; clear hf; rintro e w6 hr6; obtain ⟨rfl, -⟩ := id hr6; have HGq := Lib.hid (HG.out.read hr6 (fail_b _ _)); clear hr6))
          go_meet
          case rel =>
            have e := HQ1.out
            rw [hx, if_neg (by simp)] at e
            rw [← e]; exact HGq
      case rest =>
        have HG1 := hcut
        clear hcut HG HQ1
        generalize hq2 : (if ltT last s = true then q1 else q1.fail 31) = q2 at *
        have HQ2 := Lib.hid hq2
        clear hq2
        go_upto_if 27 with fail
        go_cut [] (fun wx => RowKit.Hid (GetAt 141 w w.heap.size B F (F + 1) Sr vr b wx q2 u v f))
        case first =>
          cases hx : ltT last s with
          | true =>
            have HGq : RowKit.Hid (GetAt 141 w w.heap.size B F (F + 1) Sr vr b wc q2 u v f) := by
              have e := HQ2.out
              rw [hx, if_pos rfl] at e
              rw [← e]; exact HG1.out
            have hbl : Op.bytesLess s.toList last.toList = false := (Bool.not_eq_true (ltT s last)).mp (ltT_asymm hx)
            have hbe : (s.toList == last.toList) = false := by rw [text_beq]; exact decide_eq_false fun e => ltT_irrefl s (by subst e; exact hx)
            go_wp2_with fail
            · exfalso
              have hh : Op.bytesLess s.toList last.toList = true ∨ (s.toList == last.toList) = true := by assumption
              rcases hh with hh | hh
              · rw [hbl] at hh; cases hh
              · rw [hbe] at hh; cases hh
            · go_meet
              case rel => exact HGq
          | false =>
            have hf := Fail_any wc B _ vr q1 HG1.out.rd 31 (by omega) (by omega)
            have hor : (Op.bytesLess s.toList last.toList = true ∧ (s.toList == last.toList) = false) ∨ (Op.bytesLess s.toList last.toList = false ∧ (s.toList == last.toList) = true) := by
              rw [text_beq]
              by_cases e : s = last
              · subst e; exact .inr ⟨(Bool.not_eq_true (ltT s s)).mp (ltT_irrefl s), by simp⟩
              · refine .inl ⟨?_, decide_eq_false e⟩
                rcases ltT_or last s with h | h | h
                · rw [hx] at h; cases h
                · exact absurd h.symm e
                · exact h
            have HOR := Lib.hid hor
            clear hor
            go_wp2_with (go_at_call 102; refine hf.mono ?_; clear hf; rintro e w6 hr6; obtain ⟨rfl, -⟩ := id hr6; have HGq := Lib.hid (HG1.out.read hr6 (fail_b _ _)); clear hr6)
            · go_meet
              case rel =>
                have e := HQ2.out
                rw [hx, if_neg (by simp)] at e
                rw [← e]; exact HGq
            · exfalso
              rename_i hh
              rcases HOR.out with ⟨hbl, hbe⟩ | ⟨hbl, hbe⟩
              · have := hh.1; rw [hbl] at this; cases this
              · have := hh.2; rw [hbe] at this; cases this
        case rest =>
          have HG2 := hcut
          clear hcut HG1 HQ2
          have hby := Byte_any wc B _ vr q2 HG2.out.rd
          have hrange := byte_range HG2.out.rd.ok
          have hbb := byte_b q2
          go_upto_region 13 with (go_at_call 74; refine hby.mono ?_; clear hby; rintro e w6 hr6; obtain ⟨rfl, -⟩ := id hr6; have HG3 := Lib.hid (HG2.out.read hr6 hbb); clear hr6 hbb HG2)
          generalize q2.byte.1 = ub at *
          generalize q2.byte.2 = qb at *
          generalize hq3 : (if 1 ≤ ub ∧ ub ≤ 3 then qb else qb.fail 31) = q3 at *
          have HQ3 := Lib.hid hq3
          clear hq3
          obtain ⟨hr1, hr2⟩ := hrange
          have hbit1 := bit1 hr1 hr2
          have hbit2 := bit2 hr1 hr2
          have HBT := Lib.hid (And.intro hbit1 hbit2)
          clear hbit1 hbit2
          obtain ⟨bad, hbad⟩ : ∃ bad : Bool, bad = decide (¬ (1 ≤ ub ∧ ub ≤ 3)) := ⟨_, rfl⟩
          have HBD := Lib.hid hbad
          clear hbad
          go_cut [38] (fun c wx => c = .bool bad ∧ wx = w6)
          case first =>
            by_cases h1 : ub < 1
            · have e := Lib.hid (HBD.out.trans (decide_eq_true (by omega)))
              go_wp2_with fail
              go_meet
              case rel => exact ⟨by rw [e.out], rfl⟩
            · by_cases h3 : 3 < ub
              · have e := Lib.hid (HBD.out.trans (decide_eq_true (by omega)))
                go_wp2_with fail
                go_meet
                case rel => exact ⟨by rw [e.out], rfl⟩
              · have e := Lib.hid (HBD.out.trans (decide_eq_false (by omega)))
                go_wp2_with fail
                go_meet
                case rel => exact ⟨by rw [e.out], rfl⟩
          case rest =>
            obtain ⟨hc, rfl⟩ := hcut
            subst hc
            go_upto_if 38 with fail
            go_cut [] (fun wx => RowKit.Hid (GetAt 141 w w.heap.size B F (F + 1) Sr vr b wx q3 u v f))
            case first =>
              have hf := Fail_any wc B _ vr qb HG3.out.rd 31 (by omega) (by omega)
              by_cases hu : 1 ≤ ub ∧ ub ≤ 3
              · have HGq : RowKit.Hid (GetAt 141 w w.heap.size B F (F + 1) Sr vr b wc q3 u v f) := by
                  have e := HQ3.out
                  rw [if_pos hu] at e
                  rw [← e]; exact HG3.out
                have e := HBD.out.trans (decide_eq_false (fun h => h hu))
                clear HBD
                subst e
                go_wp2_with fail
                go_meet
                case rel => exact HGq
              · have e := HBD.out.trans (decide_eq_true hu)
                clear HBD
                subst e
                have HU := Lib.hid hu
                clear hu
                go_wp2_with (go_at_call 102; refine hf.mono ?_; clear hf; rintro e w7 hr6; obtain ⟨rfl, -⟩ := id hr6; have HGq := Lib.hid (HG3.out.read hr6 (fail_b _ _)); clear hr6)
                go_meet
                case rel =>
                  have e := HQ3.out
                  rw [if_neg HU.out] at e
                  rw [← e]; exact HGq
            case rest =>
              have HG4 := hcut
              clear hcut HG3 HQ3
              have hlow := HG4.out.low
              go_upto_if 43 with fail
              generalize hf1 : (if ub % 2 = 1 then f.rs ++ [s] else f.rs) = l1 at *
              have HF1 := Lib.hid hf1
              clear hf1
              go_cut [] (fun wx => ∃ u', RowKit.Hid (GetAt 141 w w.heap.size B F (F + 1) Sr vr b wx q3 u' v (mkFp l1 f.ws)))
              case first =>
                by_cases h1 : ub % 2 = 1
                · have hb : (bits BinOp.and .u8 ub 1 != 0) = true := by rw [HBT.out.1]; exact decide_eq_true h1
                  obtain ⟨a1, c1, a2, c2, hu, hv⟩ := HG4.out.two.form
                  subst hu hv
                  obtain ⟨a3, c3, w7, hrun, h7, hk7⟩ := HG4.out.two.appA hlow s hs32 (by have := HFL.out.1; omega)
                  have HG5 := Lib.hid (HG4.out.grow hk7 h7 0 (.slice a3 (f.rs.length + 1) c3) rfl)
                  have hF7 := hk7.blk HG4.out.F0 (fun hf => by have := hf.1; omega)
                  have q7 := blk_cell hF7
                  have z7 := blk_fro hF7
                  have q0 := blk_cell HG4.out.F0
                  have e := HF1.out
                  rw [if_pos h1] at e
                  have HE := Lib.hid e
                  clear e h1 h7 hk7 hF7 hlow
                  generalize f.rs.length = m1 at *
                  generalize f.ws.length = m2 at *
                  go_wp2_with (at_builtin; refine wpList_app rfl (.tmp 45) (.tmp 47) 39 39 rfl rfl rfl hrun ?_)
                  go_meet
                  case rel => exact ⟨_, by rw [← HE.out]; exact HG5⟩
                · have hb : (bits BinOp.and .u8 ub 1 != 0) = false := by rw [HBT.out.1]; exact decide_eq_false h1
                  have e := HF1.out
                  rw [if_neg h1] at e
                  have HE := Lib.hid e
                  clear e h1 hlow
                  go_wp2_with fail
                  go_meet
                  case rel => exact ⟨u, by rw [← HE.out]; exact HG4⟩
              case rest =>
                obtain ⟨u', HG5⟩ := hcut
                clear hlow
                have hlow := HG5.out.low
                by_cases h2 : 2 ≤ ub % 4
                · have hb : (bits BinOp.and .u8 ub 2 != 0) = true := by rw [HBT.out.2]; exact decide_eq_true h2
                  obtain ⟨a1, c1, a2, c2, hu, hv⟩ := HG5.out.two.form
                  subst hu hv
                  obtain ⟨a3, c3, w7, hrun, h7, hk7⟩ := HG5.out.two.appB hlow s hs32 (by have := HFL.out.2; exact Nat.le_trans (Nat.succ_le_succ this) (by omega))
                  have HG6 := Lib.hid (HG5.out.grow hk7 h7 1 (.slice a3 (f.ws.length + 1) c3) rfl)
                  have hF7 := hk7.blk HG5.out.F0 (fun hf => by have := hf.1; omega)
                  have q7 := blk_cell hF7
                  have z7 := blk_fro hF7
                  have q0 := blk_cell HG5.out.F0
                  have HE := HK
                  rw [if_pos h2] at HE
                  clear h2 h7 hk7 hF7 hlow HK
                  have hm2 : (mkFp l1 f.ws).ws.length = f.ws.length := rfl
                  rw [hm2] at hrun HG6
                  generalize (mkFp l1 f.ws).rs.length = m1 at *
                  generalize f.ws.length = m2 at *
                  go_wp2_with (at_builtin; refine wpList_app rfl (.tmp 54) (.tmp 56) 39 39 rfl rfl rfl hrun ?_)
                  go_roundg (n - (k + 1))
                  case measure => have := HL.out; omega
                  case rel => exact ⟨k + 1, _, _, _, by have := HL.out; omega, rfl, by simp, rfl, HE, _, _, HG6⟩
                · have hb : (bits BinOp.and .u8 ub 2 != 0) = false := by rw [HBT.out.2]; exact decide_eq_false h2
                  have HE := HK
                  rw [if_neg h2] at HE
                  clear h2 hlow HK
                  go_wp2_with fail
                  go_roundg (n - (k + 1))
                  case measure => have := HL.out; omega
                  case rel => exact ⟨k + 1, _, _, _, by have := HL.out; omega, rfl, by simp, rfl, HE, _, _, HG5⟩
    · obtain rfl : k = n := by omega
      have j1 : ¬ (k : Int) < k := by omega
      obtain ⟨u, v, hG⟩ := HR.out.2
      have hkf := HR.out.1.1
      rw [Nat.sub_self] at hkf
      have hkf : keysF k (mkFp [] []) noText r0 = (f, r) := hkf
      have HGE := Lib.hid hG
      have hres := HX.out
      rw [hkf] at hres
      have HRS := Lib.hid hres
      clear hlt hk HR hG hkf hres HX
      have hwhy := Why_any wr B _ vr r HGE.out.rd
      have q2 := blk_cell HGE.out.g0
      have f2 := blk_fro HGE.out.g0
      by_cases he : r.err = 0
      · have hes : res = (f, r.at', 0) := by have := HRS.out; rw [if_neg (by simpa using he)] at this; exact this
        rw [if_pos he, he] at hwhy
        have hleft : r.left = bl - r.at' := by
          unfold Rs.left
          rw [if_neg (by simpa using he), HGE.out.rb, HBL.out]
        have hat : r.at' ≤ bl := by have := HGE.out.rd.ok.at_le; rw [HGE.out.rb, HBL.out] at this; exact this
        have hsub : IntKind.i64.wrap ((bl : Int) - (r.left : Int)) = (r.at' : Int) := by rw [hleft, IntKind.wrap_i64]; omega
        have hrest := fun (n : Nat) => Rest_any (wr.drewN n) B _ vr r (HGE.out.rd.drewN n)
        have q6 := blk_cell HGE.out.F0
        have HES := Lib.hid (And.intro hes (And.intro hsub hrest))
        obtain ⟨a1, c1, a2, c2, hu, hv⟩ := HGE.out.two.form
        subst hu hv
        clear hes he HRS hleft hat hsub hrest
        generalize f.rs.length = m1 at *
        generalize f.ws.length = m2 at *
        generalize r.left = lf at *
        go_wp2_with (go_at_call 44; refine hwhy.mono ?_; clear hwhy; rintro e w6 ⟨M, rfl, rfl⟩)
        have hrest := HES.out.2.2 (M + 1)
        have hsub := HES.out.2.1
        refine wp_region_can [0, 1, 2, 3, 4, 5, 6, 7, 8] [4, 6] [(0, 4), (1, 4), (2, 4), (1, 6), (2, 6), (5, 6)] (by kernel_rfl) (by kernel_rfl) (by kernel_rfl) (by kernel_rfl) (by intro c a d v w h; cases d <;> exact h) ?_
        iterate 4 (refine can_sil rfl rfl (fun K hK => ?_); go_simp; refine hK _ ?_; clear hK K)
        refine can_loud [0, 1, 2] rfl rfl rfl (fun K hK => ?_)
        go_wp2_with (go_at_call 77; refine hrest.mono ?_; clear hrest; rintro e w7 ⟨M2, rfl, rfl⟩)
        refine Mid.normal (hK _ _ ?_ ?_)
        · simp only [List.forall_mem_cons]
          refine ⟨?_, ?_, ?_, stabs_nil⟩ <;> exact stab_of rfl (fun K hK => by go_simp; exact hK)
        clear hK K
        refine can_sil rfl rfl (fun K hK => ?_); go_simp; refine hK _ ?_; clear hK K
        refine can_loud [1, 2, 5] rfl rfl rfl (fun K hK => ?_)
        go_wp2_with fail
        refine Mid.normal (hK _ _ ?_ ?_)
        · simp only [List.forall_mem_cons]
          refine ⟨?_, ?_, ?_, stabs_nil⟩ <;> exact stab_of rfl (fun K hK => by go_simp; exact hK)
        clear hK K
        iterate 2 (refine can_sil rfl rfl (fun K hK => ?_); go_simp; refine hK _ ?_; clear hK K)
        refine can_nil ?_
        go_wp2_with fail
        have hgd := HGE.out.drewN (M + 1 + M2)
        have hfin := hgd.done
        have y2 := blk_two hgd.g0 (.slice a1 m1 c1) (.slice a2 m2 c2)
        have s2 := blk_cell y2
        have s0 := s2 0
        have s1 := s2 1
        simp at s0 s1
        refine bodyPost_ret (v := .tuple #[.agg #[.slice a1 m1 c1, .slice a2 m2 c2], .int .i64 r.at', .int .i64 0]) (by simp [results, Tryz.results76, go_sem, s0, s1]) rfl ?_
        rw [HES.out.1]
        exact ⟨_, _, _, _, _, _, rfl, hfin.1, hfin.2⟩
      · have hes : res = (mkFp [] [], 0, r.err) := by have := HRS.out; rw [if_pos he] at this; exact this
        have HES := Lib.hid hes
        have d1 : (r.err != 0) = true := by simpa using he
        rw [if_neg he] at hwhy
        clear hes he HRS
        go_wp2_with (go_at_call 44; refine hwhy.mono ?_; clear hwhy; rintro e w6 ⟨M, rfl, rfl⟩)
        have y2 := blk_two (HGE.out.drewN M).g0 (.slice none 0 0) (.slice none 0 0)
        have s2 := blk_cell y2
        have s0 := s2 0
        have s1 := s2 1
        simp at s0 s1
        refine bodyPost_ret (v := .tuple #[.agg #[.slice none 0 0, .slice none 0 0], .int .i64 0, .int .i64 r.err]) (by simp [results, Tryz.results76, go_sem, s0, s1]) rfl ?_
        rw [HES.out]
        have hk1 := two_nil (HGE.out.drewN M).keep (Nat.le_refl w.heap.size)
        exact ⟨_, _, _, _, _, _, rfl, hk1⟩
end Go.Proofs.YtcallmnhaikfpaaGreatDoor
