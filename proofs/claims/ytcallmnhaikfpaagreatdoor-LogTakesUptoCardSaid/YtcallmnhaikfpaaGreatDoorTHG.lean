/-
  Parts of what is proved for this claim; each declaration is one of the seat's texts.
-/
import Derived.Test.YtcallmnhaikfpaaGreatDoorTGA
import Derived.Test.YtcallmnhaikfpaaGreatDoorTGB
import Derived.Test.YtcallmnhaikfpaaGreatDoorTGC
import Derived.Test.YtcallmnhaikfpaaGreatDoorTGD
import Derived.Test.YtcallmnhaikfpaaGreatDoorTGF
import Derived.Test.YtcallmnhaikfpaaGreatDoorTGG
import Derived.Test.YtcallmnhaikfpaaGreatDoorTGH
import Derived.Test.YtcallmnhaikfpaaGreatDoorTGI
import Derived.Test.YtcallmnhaikfpaaGreatDoorTGK
import Derived.Test.YtcallmnhaikfpaaGreatDoorTGT
import Derived.Test.YtcallmnhaikfpaaGreatDoorTGW
import Derived.Test.YtcallmnhaikfpaaGreatDoorTHA
import Derived.Test.YtcallmnhaikfpaaGreatDoorTHB
import Derived.Test.YtcallmnhaikfpaaGreatDoorTHD
import Derived.Test.YtcallmnhaikfpaaGreatDoorTHE
import Derived.Test.YtcallmnhaikfpaaGreatDoorTHF
import Derived.RangeFuncNested
import Derived.RangeFuncBound
import Derived.RangeFuncCalls
import Derived.RangeFuncLeaves
import Derived.Shelf.Abstract
import Derived.Shelf.RegionOpen
import Derived.WalkKit
import Derived.OwnWalkIn
import Derived.TacticsInMore
import Derived.LoopNIn
import Derived.LoopIn
import Derived.WalkSpells
import Derived.WalkLawsBesides
import Derived.ProofKit
import Derived.Deep.Slices
import Derived.Deep.AppendSrc
import Derived.Lib.Hide
import Derived.Still
import Derived.StillTactics
import Derived.Recover
import Derived.Defers
import Derived.Deep.QuietTactic
import Derived.BigQuiet
import Derived.Handy
import Derived.Laws.Bits64b
import Derived.Lib.Zigzag
import Derived.OwnWalk
import Derived.Deep.DeepCutAuto
import Derived.Lib.Bytealg
import Derived.Laws.Externs
import Derived.Deep.LoopGhost
import Derived.Laws.CopyRow
import Derived.Laws.IdiomCopy
import Derived.Maps.OwnSet
import Derived.Maps.RangeWalk
import Derived.Shelf.SortM.Plain
import Derived.Shelf.SortM.SortNone
import Derived.Ground.SlgmProg
import Derived.Maps.OwnOps
import Derived.Lib.ConvBytes
import Derived.OrdersIn
set_option linter.unusedVariables false
set_option linter.unusedSimpArgs false
namespace Go.Proofs.YtcallmnhaikfpaaGreatDoor
open Go Go.RowKit Go.Deep
structure LdAt (T U : TypeId) (w : World) (B LB lo : Nat) (S : Nat → Prop) (vr : Value) (b : Bytes) (ep : Int) (wr : World) (r : Rs) (v : Value) (l : List Ent) : Prop where
  keep : Keep No w wr
  L0 : wr.heap[LB]? = some (.cells #[v, .int .i64 ep] U (0, 0))
  rd : RdrAt T wr B S vr r
  own : OwnE lo wr v l
  Bw : w.heap.size ≤ B
  Lw : w.heap.size ≤ LB
  LneB : LB ≠ B
  Blo : B < lo
  Llo : LB < lo
  LS : ¬ S LB
  Slo : ∀ k, S k → k < lo
  rb : r.b = b
  low : lo ≤ wr.heap.size
theorem LdAt.read {T U : TypeId} {w : World} {B LB lo : Nat} {S : Nat → Prop} {vr : Value} {b : Bytes} {ep : Int} {wr : World} {r : Rs} {v : Value} {l : List Ent} (h : LdAt T U w B LB lo S vr b ep wr r v l) {x : Value} {r' : Rs} {e : Ending} {w' : World} (hr : Reads T wr B S vr x r' e w') (hb : r'.b = r.b) :
    LdAt T U w B LB lo S vr b ep w' r' v l := by
  obtain ⟨-, h1, hk⟩ := hr
  have hB := h.Bw
  exact { h with
    keep := h.keep.then hk fun i hi e => by have : i = B := e; omega
    L0 := hk.blk h.L0 (fun e => h.LneB e)
    rd := h1
    own := h.own.keep hk fun i hi e => by have : i = B := e; have := h.Blo; omega
    rb := hb.trans h.rb
    low := Nat.le_trans h.low hk.size }
theorem LdAt.more {T U : TypeId} {w : World} {B LB lo : Nat} {S : Nat → Prop} {vr : Value} {b : Bytes} {ep : Int} {wr w' : World} {r : Rs} {v : Value} {l : List Ent} (h : LdAt T U w B LB lo S vr b ep wr r v l) (hk : Keep No wr w') : LdAt T U w B LB lo S vr b ep w' r v l :=
  { h with
    keep := h.keep.trans hk
    L0 := hk.blk h.L0 (fun x => x)
    rd := h.rd.agree hk
    own := h.own.keep hk fun _ _ x => x
    low := Nat.le_trans h.low hk.size }
theorem LdAt.grow {T U : TypeId} {w : World} {B LB lo m : Nat} {S : Nat → Prop} {vr : Value} {b : Bytes} {ep : Int} {wr w2 : World} {r : Rs} {v v' : Value} {l l' : List Ent} (h : LdAt T U w B LB lo S vr b ep wr r v l) (hk : Keep (Fr lo m) wr w2) (h2 : OwnE lo w2 v' l') :
    LdAt T U w B LB lo S vr b ep (w2.setCell ⟨LB, 0, none⟩ v') r v' l' := by
  have n1 : ∀ k, k < lo → ¬ Fr lo m k := fun k hk hf => by have := hf.1; omega
  have hF2 := hk.blk h.L0 (n1 LB h.Llo)
  have hset := blk_set hF2 0 v'
  have ks := keep_set w2 LB 0 v'
  have hr2 : RdrAt T w2 B S vr r := ⟨hk.blk h.rd.blk (n1 B h.Blo), h.rd.rd.lowT hk (fun k hS => n1 k (h.Slo k hS)), h.rd.nB, h.rd.ok, h.rd.pl⟩
  have hsz := hk.size
  have hlow := h.low
  exact { h with
    keep := (h.keep.then hk fun k hkw hf => by have := hf.1; have := h.Llo; have := h.Lw; omega).then ks fun k hkw e => by have : k = LB := e; have := h.Lw; omega
    L0 := by simpa using hset
    rd := ⟨ks.blk hr2.blk (fun e => h.LneB (show B = LB from e).symm), hr2.rd.lowT ks (fun k hS e => h.LS (by cases (show k = LB from e); exact hS)), hr2.nB, hr2.ok, hr2.pl⟩
    own := h2.keep ks fun k hk e => by have : k = LB := e; have := h.Llo; omega
    low := by simp; omega }
def GivesLd (w : World) (x : Option Lg × Int × Nat) (e : Ending) (w' : World) : Prop :=
  match x.1 with
  | none => e = .returned (.tuple #[.pointer none, .int .i64 x.2.1, .int .i64 x.2.2]) ∧ Keep No w w'
  | some y => ∃ LB S, e = .returned (.tuple #[.pointer (some ⟨LB, 0, none⟩), .int .i64 x.2.1, .int .i64 x.2.2]) ∧ LogAt 80 w' LB S y ∧ (∀ i, S i → w.heap.size ≤ i) ∧ Keep No w w'
theorem LdAt.done {T : TypeId} {w : World} {B LB lo : Nat} {S : Nat → Prop} {vr : Value} {b : Bytes} {ep : Int} {wr : World} {r : Rs} {v : Value} {l : List Ent} (h : LdAt T 80 w B LB lo S vr b ep wr r v l) (he : (Lit.int .i64 ep).wf = true) : GivesLd w (some ⟨l, ep⟩, 0, 0) (.returned (.tuple #[.pointer (some ⟨LB, 0, none⟩), .int .i64 0, .int .i64 0])) wr := by
  refine ⟨LB, fun i => i = LB ∨ Fr lo wr.heap.size i, rfl, ⟨v, Fr lo wr.heap.size, h.L0, h.own, .inl rfl, fun k hk => ⟨.inr hk, by have := hk.1; have := h.Llo; omega⟩, he, fun k hk => ?_⟩, fun i hi => ?_, h.keep⟩
  · rcases hk with rfl | hk
    · exact blk_lt h.L0
    · exact hk.2
  · rcases hi with rfl | hi
    · exact h.Lw
    · have := hi.1; have := h.Llo; have := h.Lw; omega
end Go.Proofs.YtcallmnhaikfpaaGreatDoor
namespace Go.Proofs.YtcallmnhaikfpaaGreatDoor
open Go Go.RowKit Go.Deep
structure LdK (m : Int) (ep n : Nat) (r0 : Rs) (k : Nat) (last : Int) (l : List Ent) (r : Rs) : Prop where
  kle : k ≤ n
  same : loadF (fun n => n) m ep n 0 0 [] r0 = loadF (fun n => n) m ep (n - k) k last l r
  len : l.length = k
theorem ldF_step {most : Int → Int} {m ep : Int} {n k : Nat} {last : Int} {l : List Ent} {r : Rs} (hk : k < n) :
    loadF most m ep (n - k) k last l r = (let t := r.text m
      if t.2.err ≠ 0 then .inr (123, k) else
      let e := entGetL (most t.1.size) (bytesOf t.1)
      if e.2 ≠ 0 then .inr (e.2, k)
      else if e.1.seq ≠ k then .inr (122, k)
      else if e.1.epoch < last ∨ ep < e.1.epoch then .inr (120, k)
      else loadF most m ep (n - (k + 1)) (k + 1) e.1.epoch (l ++ [e.1]) t.2) := by
  obtain ⟨q, hq⟩ : ∃ q, n - k = q + 1 := ⟨n - k - 1, by omega⟩
  rw [hq, show n - (k + 1) = q by omega]
  rfl
theorem why_some {w : World} {B : Nat} {S : Nat → Prop} {v : Value} {r : Rs} (h : RdrAt 141 w B S v r) : Calls Tryz.prog 44 #[.pointer (some ⟨B, 0, none⟩)] w fun e w' => ∃ sp : Int, e = .returned (.tuple #[.int .i64 r.err, .int .i64 sp]) ∧ RowKit.Hid (Keep No w w') :=
  (Why_any w B S v r h).mono (by
    rintro e w' ⟨n, rfl, rfl⟩
    exact ⟨_, rfl, (Keep.refl No w).drewN n⟩)
set_option maxRecDepth 10000 in
set_option maxHeartbeats 2000000 in
theorem logLoad_any (w : World) (S : Nat → Prop) (v : Value) (b : Bytes) (h : Rd bytesSh w S [v] b) (hl : b.length ≤ 140737488355328) :
    Calls Tryz.prog 19 #[v] w (GivesLd w (load b)) := by
  have hnew := (NewReader_any _ S v b h hl).mono (R' := fun e w2 => ∃ B Sr vr, e = .returned (.pointer (some ⟨B, 0, none⟩)) ∧ RowKit.Hid (w.heap.size ≤ B ∧ Sr = Fr w.heap.size B ∧ RdrAt 141 w2 B Sr vr (Rs.new b) ∧ Keep No w w2)) (by
    rintro e w2 ⟨B, vr, rfl, hB, hr, hk⟩
    exact ⟨B, _, vr, rfl, hB, rfl, hr, hk⟩)
  have hres : load b = loadL (fun n => n) b.length b := rfl
  unfold loadL at hres
  simp only at hres
  obtain ⟨a0, c0, rfl, -⟩ := bytes_at h
  have h63 : b.length ≤ 140737488355328 := hl
  have HR := Lib.hid hres
  clear h hl hres
  go_enter Tryz.func19, Tryz.ntmps19
  go_wp2_with fail
  refine hnew.mono ?_
  clear hnew
  rintro e w2 ⟨B, Sr, vr, rfl, H2⟩
  go_wp2_with fail
  refine (Uint_any w2 B _ vr _ H2.out.2.2.1).mono ?_
  rintro e w3 hr3
  obtain ⟨rfl, hR3, hk3⟩ := id hr3
  have l3 := uint_lt H2.out.2.2.1.ok
  have b3 : (Rs.new b).uint.2.b = b := uint_b _
  clear hr3
  generalize (Rs.new b).uint.1 = ep at *
  generalize (Rs.new b).uint.2 = r1 at *
  go_wp2_with fail
  refine (Count_any w3 B _ vr _ hR3 65536 (by omega) (by omega)).mono ?_
  rintro e w4 hr4
  obtain ⟨rfl, hR4, hk4⟩ := id hr4
  have l4 : (r1.count 65536).1 ≤ 65536 := count_le _ 65536
  have b4 := (count_b r1 65536).trans b3
  clear hr4 hR3
  generalize (r1.count 65536).1 = n at *
  generalize (r1.count 65536).2 = r2 at *
  go_upto_region 4 with fail
  have hsz4 := hk3.size
  have hsz5 := hk4.size
  have hBl := H2.out.2.2.1.lt
  have hHG : ∀ epi : Int, LdAt 141 80 w B w4.heap.size (w4.heap.size + 1) Sr vr b epi (w4.alloc (.cells #[.slice none 0 0, .int .i64 epi] 80)) r2 (.slice none 0 0) [] := fun epi => by
    obtain ⟨h1, h2, h3, h4⟩ := H2.out
    have ka := (Keep.refl No w4).alloc (.cells #[.slice none 0 0, .int .i64 epi] 80)
    have hs := h4.size
    subst h2
    exact ⟨((h4.then hk3 fun i hi e => by (have : i = B := e; omega)).then hk4 fun i hi e => by (have : i = B := e; omega)).trans ka, blk_new _ _, hR4.agree ka, Own.nil _ _ _ _, h1, by omega, by omega, by omega, by omega, fun hf => by have := hf.2; omega, fun k hf => by have := hf.2; omega, b4, by simp⟩
  have HHG := Lib.hid hHG
  clear hHG hsz4 hsz5 hBl hk3 hk4 hR4 H2 b3 b4
  by_cases hbad : r2.err ≠ 0 ∨ 2 ^ 63 ≤ ep
  · have hr := HR.out
    rw [if_pos hbad] at hr
    have HRR := Lib.hid hr
    have HG := Lib.hid (HHG.out (wrap64 ep))
    clear hr HR HHG
    generalize (w4.alloc (.cells #[.slice none 0 0, .int .i64 (wrap64 ep)] 80)) = w5 at *
    by_cases h1 : r2.err = 0
    · have b1 : (r2.err != 0) = false := by simpa using h1
      have b2 : decide ((9223372036854775807 : Int) < (ep : Int)) = true := by have := hbad.resolve_left (by simpa using h1); simp; omega
      clear h1 hbad l3
      go_wp2_with (go_at_call 44; refine (why_some HG.out.rd).mono ?_; rintro e w7 ⟨sp, rfl, HW⟩)
      refine bodyPost_ret (v := .tuple #[.pointer none, .int .i64 123, .int .i64 0]) (by simp [results, Tryz.results19, go_sem]) rfl ?_
      rw [HRR.out]
      exact ⟨rfl, HG.out.keep.trans HW.out⟩
    · have b1 : (r2.err != 0) = true := by simpa using h1
      clear h1 hbad l3
      go_wp2_with (go_at_call 44; refine (why_some HG.out.rd).mono ?_; rintro e w7 ⟨sp, rfl, HW⟩)
      refine bodyPost_ret (v := .tuple #[.pointer none, .int .i64 123, .int .i64 0]) (by simp [results, Tryz.results19, go_sem]) rfl ?_
      rw [HRR.out]
      exact ⟨rfl, HG.out.keep.trans HW.out⟩
  · have hr := HR.out
    rw [if_neg hbad] at hr
    have hbe : r2.err = 0 := Classical.byContradiction fun h => hbad (.inl h)
    have hb63 : ep < 2 ^ 63 := by omega
    have hw64 : wrap64 (ep : Int) = (ep : Int) := by unfold wrap64; omega
    have b1 : (r2.err != 0) = false := by simpa using hbe
    have b2 : decide ((9223372036854775807 : Int) < (ep : Int)) = false := by simp; omega
    have HRR := Lib.hid (And.intro hr hb63)
    have HG := Lib.hid (HHG.out ep)
    clear hr HR HHG hbe hb63 hbad l3
    rw [hw64]
    clear hw64
    generalize (w4.alloc (.cells #[.slice none 0 0, .int .i64 (ep : Int)] 80)) = w5 at *
    generalize w4.heap.size = LB at *
    go_wp2_with (go_at_call 44; refine (why_some HG.out.rd).mono ?_; rintro e w7 ⟨sp, rfl, HW⟩)
    have HG7 := Lib.hid (HG.out.more HW.out)
    clear b1 b2 HG HW
    go_loopw [11, 40] (fun la i wr => ∃ (k : Nat) (last : Int) (l : List Ent) (r : Rs) (v : Value), i = .int .i64 k ∧ la = .int .i64 last ∧ RowKit.Hid (LdK b.length ep n r2 k last l r ∧ LdAt 141 80 w B LB (LB + 1) Sr vr b ep wr r v l)) (fun _ i _ => n - (intOf i).toNat)
    case atStart => exact ⟨0, 0, [], r2, _, rfl, rfl, ⟨Nat.zero_le _, rfl, rfl⟩, HG7.out⟩
    case round =>
      obtain ⟨k, last, l, r, v, rfl, rfl, HL⟩ := hrel
      by_cases hlt : k < n
      · have htx := Text_any wr B _ vr r HL.out.2.rd b.length (by omega) (by omega)
        have hj1 : (k : Int) < n := by omega
        have hj3 : (k : Int) ≤ 9223372036854775806 := by omega
        have hstep := ldF_step (most := fun n => n) (m := b.length) (ep := ep) (n := n) (k := k) (last := last) (l := l) (r := r) hlt
        rw [← HL.out.1.same] at hstep
        have HS := Lib.hid (And.intro hstep hlt)
        have hts : (r.text b.length).1.size ≤ b.length := text_le r b.length
        have htb := text_b r b.length
        generalize r.text b.length = tt at *
        obtain ⟨t, rt⟩ := tt
        dsimp only at htx hts htb
        have HTS := Lib.hid (And.intro hts l4)
        clear hstep hts
        by_cases hz : rt.err = 0
        · have hs := HS.out.1
          dsimp only at hs
          rw [if_neg (by simpa using hz)] at hs
          have hent : entGetL ((fun n => n) (t.size : Int)) (bytesOf t) = entGet (bytesOf t) := by unfold entGet; rw [bytesOf_length]
          rw [hent] at hs
          have b3 : (rt.err != 0) = false := by simpa using hz
          have HSS := Lib.hid (And.intro hs HS.out.2)
          clear hs hz hlt l4 HS hent
          go_wp2_with (first | (go_at_call 45; refine htx.mono ?_; clear htx; rintro e w8 hr8; obtain ⟨rfl, -⟩ := id hr8; have HL8 := Lib.hid (HL.out.2.read hr8 htb); clear hr8) | (go_at_call 44; refine (why_some HL8.out.rd).mono ?_; rintro e w9 ⟨sp, rfl, HW⟩; have HL9 := Lib.hid (HL8.out.more HW.out); clear HL8 HW; obtain ⟨c10, w10, hconv, hrd10, hk10, hs10⟩ := conv_bytes w9 t (by have := HTS.out.1; omega); have HK10 := Lib.hid (And.intro hrd10 (And.intro hk10 hs10)); clear hrd10 hk10 hs10))
          have hget := (getEnt_any w10 _ _ _ HK10.out.1 (by rw [bytesOf_length]; have := HTS.out.1; omega)).mono (R' := fun e w11 => ∃ b1 d1 b2 d2 b3 d3, e = .returned (.tuple #[.agg #[.int .i64 (entGet (bytesOf t)).1.seq, .int .i64 (entGet (bytesOf t)).1.epoch, .int .i64 (entGet (bytesOf t)).1.plan.client, .int .u64 (entGet (bytesOf t)).1.plan.token, .string (entGet (bytesOf t)).1.plan.name, .slice b1 (entGet (bytesOf t)).1.plan.args.length d1, .int .i64 (entGet (bytesOf t)).1.plan.how, .slice b2 (entGet (bytesOf t)).1.plan.reads.length d2, .slice b3 (entGet (bytesOf t)).1.plan.writes.length d3], .int .i64 (entGet (bytesOf t)).2]) ∧
            RowKit.Hid (Rd entrySh w11 (Fr w9.heap.size w11.heap.size) [.int .i64 (entGet (bytesOf t)).1.seq, .int .i64 (entGet (bytesOf t)).1.epoch, .int .i64 (entGet (bytesOf t)).1.plan.client, .int .u64 (entGet (bytesOf t)).1.plan.token, .string (entGet (bytesOf t)).1.plan.name, .slice b1 (entGet (bytesOf t)).1.plan.args.length d1, .int .i64 (entGet (bytesOf t)).1.plan.how, .slice b2 (entGet (bytesOf t)).1.plan.reads.length d2, .slice b3 (entGet (bytesOf t)).1.plan.writes.length d3] (entGet (bytesOf t)).1 ∧ Keep No w9 w11)) (by
            rintro e w11 ⟨cs, rfl, hr, hk⟩
            obtain ⟨b1, d1, b2, d2, b3, d3, ec⟩ := ent_array hr
            subst ec
            exact ⟨b1, d1, b2, d2, b3, d3, rfl, hr.mono _ (fun i _ hi => ⟨by have := hi.1; have := HK10.out.2.2; omega, hi.2⟩), HK10.out.2.1.trans hk⟩)
          generalize hx : entGet (bytesOf t) = xe at *
          have HXE := Lib.hid hx
          clear hx hconv
          obtain ⟨xe, xc⟩ := xe
          dsimp only at hget
          refine hget.mono ?_
          clear hget
          rintro e w11 ⟨u1, d1, u2, d2, u3, d3, rfl, H11⟩
          have hE := blk_new w11 (.cells #[.int .i64 xe.seq, .int .i64 xe.epoch, .int .i64 xe.plan.client, .int .u64 xe.plan.token, .string xe.plan.name, .slice u1 xe.plan.args.length d1, .int .i64 xe.plan.how, .slice u2 xe.plan.reads.length d2, .slice u3 xe.plan.writes.length d3] 58)
          have HE := Lib.hid (And.intro hE ((Keep.refl No w11).alloc (.cells #[.int .i64 xe.seq, .int .i64 xe.epoch, .int .i64 xe.plan.client, .int .u64 xe.plan.token, .string xe.plan.name, .slice u1 xe.plan.args.length d1, .int .i64 xe.plan.how, .slice u2 xe.plan.reads.length d2, .slice u3 xe.plan.writes.length d3] 58)))
          clear hE
          go_upto_region 16 with fail
          obtain ⟨E, hEE⟩ : ∃ E, w11.heap.size = E := ⟨_, rfl⟩
          rw [hEE] at HE ⊢
          generalize (w11.alloc (.cells #[.int .i64 xe.seq, .int .i64 xe.epoch, .int .i64 xe.plan.client, .int .u64 xe.plan.token, .string xe.plan.name, .slice u1 xe.plan.args.length d1, .int .i64 xe.plan.how, .slice u2 xe.plan.reads.length d2, .slice u3 xe.plan.writes.length d3] 58)) = w12 at *
          have q12 := blk_cell HE.out.1
          have hs := HSS.out.1
          have HEK := Lib.hid hEE
          clear hEE
          by_cases hxc : xc = 0
          · subst hxc
            rw [if_neg (by simp)] at hs
            by_cases hsq : xe.seq = (k : Int)
            · rw [if_neg (by simpa using hsq)] at hs
              have b4 : (xe.seq != (k : Int)) = false := by simpa using hsq
              have HL12 := Lib.hid ((HL9.out.more H11.out.2).more HE.out.2)
              have y12 := blk_cell HL12.out.L0
              by_cases hep : xe.epoch < last ∨ (ep : Int) < xe.epoch
              · rw [if_pos hep] at hs
                have hr := HRR.out.1
                rw [hs] at hr
                have HRF := Lib.hid hr
                clear hr hs hsq
                by_cases h1 : xe.epoch < last
                · have b5 : decide (xe.epoch < last) = true := by simpa using h1
                  clear h1 hep
                  go_wp2_with fail
                  go_quiet (fail)
                  go_wp2_with fail
                  refine bodyPost_ret (v := .tuple #[.pointer none, .int .i64 120, .int .i64 k]) (by simp [results, Tryz.results19, go_sem]) rfl ?_
                  rw [HRF.out]
                  exact ⟨rfl, HL12.out.keep.trans ((Keep.refl No _).drewN _)⟩
                · have b5 : decide (xe.epoch < last) = false := by simpa using h1
                  have b6 : decide ((ep : Int) < xe.epoch) = true := by simpa using hep.resolve_left h1
                  clear h1 hep
                  go_wp2_with fail
                  go_quiet (fail)
                  go_wp2_with fail
                  refine bodyPost_ret (v := .tuple #[.pointer none, .int .i64 120, .int .i64 k]) (by simp [results, Tryz.results19, go_sem]) rfl ?_
                  rw [HRF.out]
                  exact ⟨rfl, HL12.out.keep.trans ((Keep.refl No _).drewN _)⟩
              · rw [if_neg hep] at hs
                have b5 : decide (xe.epoch < last) = false := by simp; omega
                have b6 : decide ((ep : Int) < xe.epoch) = false := by simp; omega
                have HS2 := Lib.hid hs
                clear hs hsq hep
                go_wp2_with fail
                go_quiet (fail)
                go_wp2_with fail
                have HW13 := Lib.hid ((Keep.refl No w12).drewN nq)
                generalize w12.drewN nq = w13 at *
                clear q12 y12
                have hl13 := HL12.out.more HW13.out
                have q13 := blk_cell ((HW13.out.trans (Keep.refl No w13).drew).blk HE.out.1 (fun x => x))
                have hln : l.length = k := HL.out.1.len
                have hk9 : Keep No w9 w13.drew := ((H11.out.2.trans HE.out.2).trans HW13.out).trans (Keep.refl No w13).drew
                have hk11 : Keep No w11 w13.drew := (HE.out.2.trans HW13.out).trans (Keep.refl No w13).drew
                have h65 := HTS.out.2
                have hkn := HSS.out.2
                obtain ⟨a7, d7, w14, hrun, ho, hk14⟩ := own_ent (w := w13.drew) (lo := LB + 1) (m := w9.heap.size) (Own.agree HL9.out.own hk9.agreeNo) ((Rd.agree entrySh H11.out.1 hk11.agreeNo).mono _ (T := Fr w9.heap.size w13.drew.heap.size) fun i _ hi => ⟨hi.1, Nat.lt_of_lt_of_le hi.2 hk11.size⟩) HL9.out.low hk9.size (by omega)
                have hl13d := hl13.more (Keep.refl No w13).drew
                obtain ⟨m1, hm1⟩ : ∃ m1, l.length + 1 = m1 := ⟨_, rfl⟩
                rw [hm1] at hrun ho
                have hgrow := hl13d.grow hk14 ho
                have z14 := hk14.blk hl13d.L0 (fun h => by have := h.1; omega)
                obtain ⟨aV, cV, hv, -⟩ := hl13.own.form
                obtain ⟨ml, hml⟩ : ∃ ml, l.length = ml := ⟨_, rfl⟩
                rw [hml] at hv
                subst hv
                have y13 := blk_cell hl13d.L0
                have y13a := fun o => blk_cell (blk_alloc (o' := o) hl13d.L0)
                have HGR := Lib.hid (And.intro hgrow hln)
                have HRUN := Lib.hid hrun
                have HZ := Lib.hid z14
                have HML := Lib.hid (And.intro hm1 hml)
                clear hgrow hl13 hl13d ho hk14 hk9 hk11 hrun z14 h65 hkn hm1 hml hln
                refine wp_region_can [0, 1, 2, 3, 4, 5, 6, 7, 8, 9, 10] [6, 7, 10] [(0, 6), (1, 6), (2, 6), (3, 6), (4, 6), (0, 7)] (by kernel_rfl) (by kernel_rfl) (by kernel_rfl) (by kernel_rfl) (by intro c a d v w h; cases d <;> exact h) ?_
                generalize w13.drew = wd at *
                iterate 6 (refine can_sil rfl rfl (fun K hK => ?_); go_simp; refine hK _ ?_; clear hK K)
                refine can_loud [0, 1, 2, 3, 4] rfl rfl rfl (fun K hK => ?_)
                go_wp2_with fail
                refine Mid.normal (hK _ _ ?_ ?_)
                · simp only [List.forall_mem_cons]
                  refine ⟨?_, ?_, ?_, ?_, ?_, stabs_nil⟩ <;> exact stab_of rfl (fun K hK => by go_simp; exact hK)
                clear hK K
                refine can_loud [0] rfl rfl rfl (fun K hK => ?_)
                refine wpList_app rfl (.tmp 93) (.tmp 95) 78 78 rfl rfl rfl HRUN.out ?_
                have c5 := blk_cell HZ.out
                have f5 := blk_fro HZ.out
                go_wp2_with fail
                refine Mid.normal (hK _ _ ?_ ?_)
                · simp only [List.forall_mem_cons]
                  refine ⟨?_, stabs_nil⟩ <;> exact stab_of rfl (fun K hK => by go_simp; exact hK)
                clear hK K
                iterate 2 (refine can_sil rfl rfl (fun K hK => ?_); go_simp; refine hK _ ?_; clear hK K)
                refine can_loud [] rfl rfl rfl (fun K hK => ?_)
                go_wp2_with fail
                refine Mid.normal (hK _ _ stabs_nil ?_)
                clear hK K
                refine can_nil ?_
                clear c5 f5 y13 y13a q13
                go_wp2_with fail
                go_roundw
                case rel =>
                  obtain ⟨g1, g2⟩ := HGR.out
                  exact ⟨k + 1, xe.epoch, l ++ [xe], rt, _, by simp, rfl, ⟨HSS.out.2, HS2.out, by simp [g2]⟩, g1⟩
                case measure => simp [intOf]; have := HSS.out.2; omega
            · rw [if_pos hsq] at hs
              have hr := HRR.out.1
              rw [hs] at hr
              have HRF := Lib.hid hr
              have b4 : (xe.seq != (k : Int)) = true := by simpa using hsq
              clear hr hs hsq
              go_wp2_with fail
              refine bodyPost_ret (v := .tuple #[.pointer none, .int .i64 122, .int .i64 k]) (by simp [results, Tryz.results19, go_sem]) rfl ?_
              rw [HRF.out]
              exact ⟨rfl, (HL9.out.keep.trans H11.out.2).trans HE.out.2⟩
          · rw [if_pos hxc] at hs
            have hr := HRR.out.1
            rw [hs] at hr
            have HRF := Lib.hid hr
            have b4 : (xc != 0) = true := by simpa using hxc
            clear hr hs hxc
            go_wp2_with fail
            refine bodyPost_ret (v := .tuple #[.pointer none, .int .i64 xc, .int .i64 k]) (by simp [results, Tryz.results19, go_sem]) rfl ?_
            rw [HRF.out]
            exact ⟨rfl, (HL9.out.keep.trans H11.out.2).trans HE.out.2⟩
        · have hs := HS.out.1
          dsimp only at hs
          rw [if_pos hz] at hs
          have hr := HRR.out.1
          rw [hs] at hr
          have HRF := Lib.hid hr
          have b3 : (rt.err != 0) = true := by simpa using hz
          clear hr hs hz hlt l4 HS
          go_wp2_with (first | (go_at_call 45; refine htx.mono ?_; clear htx; rintro e w8 hr8; obtain ⟨rfl, -⟩ := id hr8; have HL8 := Lib.hid (HL.out.2.read hr8 htb); clear hr8) | (go_at_call 44; refine (why_some HL8.out.rd).mono ?_; rintro e w9 ⟨sp, rfl, HW⟩))
          refine bodyPost_ret (v := .tuple #[.pointer none, .int .i64 123, .int .i64 k]) (by simp [results, Tryz.results19, go_sem]) rfl ?_
          rw [HRF.out]
          exact ⟨rfl, HL8.out.keep.trans HW.out⟩
      · obtain rfl : k = n := by have := HL.out.1.kle; omega
        have hs := HL.out.1.same
        rw [Nat.sub_self] at hs
        have hr := HRR.out.1
        rw [hs] at hr
        simp only [loadF] at hr
        have HRE := Lib.hid hr
        have HLd := Lib.hid HL.out.2
        have hend := End_any wr B _ vr r HL.out.2.rd
        clear hs hr HL hlt HG7
        by_cases hz : r.end'.err = 0
        · have hr := HRE.out
          rw [if_neg (by simpa using hz)] at hr
          have HRF := Lib.hid hr
          have b3 : (r.end'.err != 0) = false := by simpa using hz
          have hb63 := HRR.out.2
          clear hr HRE hz
          go_wp2_with (go_at_call 47; refine hend.mono ?_; clear hend; rintro e w8 hr8; obtain ⟨rfl, -⟩ := id hr8; have HL8 := Lib.hid (HLd.out.read hr8 (end_b _)); clear hr8)
          refine bodyPost_ret (v := .tuple #[.pointer (some ⟨LB, 0, none⟩), .int .i64 0, .int .i64 0]) (by simp [results, Tryz.results19, go_sem]) rfl ?_
          rw [HRF.out]
          exact HL8.out.done (wf_i64 (by omega) (by omega))
        · have hr := HRE.out
          rw [if_pos (by simpa using hz)] at hr
          have HRF := Lib.hid hr
          have b3 : (r.end'.err != 0) = true := by simpa using hz
          clear hr HRE hz
          go_wp2_with (go_at_call 47; refine hend.mono ?_; clear hend; rintro e w8 hr8; obtain ⟨rfl, -⟩ := id hr8; have HL8 := Lib.hid (HLd.out.read hr8 (end_b _)); clear hr8)
          refine bodyPost_ret (v := .tuple #[.pointer none, .int .i64 123, .int .i64 k]) (by simp [results, Tryz.results19, go_sem]) rfl ?_
          rw [HRF.out]
          exact ⟨rfl, HL8.out.keep⟩
end Go.Proofs.YtcallmnhaikfpaaGreatDoor
