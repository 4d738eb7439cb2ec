/-
  Parts of what is proved for this claim; each declaration is one of the seat's texts.
-/
import Derived.Test.YtpjcebajkfeacaaGreatDoorWGA
import Derived.Test.YtpjcebajkfeacaaGreatDoorWGC
import Derived.Test.YtpjcebajkfeacaaGreatDoorWGD
import Derived.Test.YtpjcebajkfeacaaGreatDoorWGF
import Derived.Test.YtpjcebajkfeacaaGreatDoorWGK
import Derived.Test.YtpjcebajkfeacaaGreatDoorWGV
import Derived.Test.YtpjcebajkfeacaaGreatDoorWHC
import Derived.Test.YtpjcebajkfeacaaGreatDoorWHD
import Derived.Test.YtpjcebajkfeacaaGreatDoorWHR
import Derived.Test.YtpjcebajkfeacaaGreatDoorWHT
import Derived.Test.YtpjcebajkfeacaaGreatDoorWHU
import Derived.Test.YtpjcebajkfeacaaGreatDoorWHV
import Derived.Test.YtpjcebajkfeacaaGreatDoorWIA
import Derived.Still
import Derived.StillTactics
import Derived.WalkKit
import Derived.Recover
import Derived.Defers
import Derived.Deep.QuietTactic
import Derived.BigQuiet
import Derived.Handy
import Derived.Laws.Bits64b
import Derived.Lib.Zigzag
import Derived.WalkSpells
import Derived.WalkLawsBesides
import Derived.ProofKit
import Derived.Deep.Slices
import Derived.Deep.AppendSrc
import Derived.Lib.Hide
import Derived.Lib.EndianBits
import Derived.OpenShut
import Derived.Deep.LoopGhost
import Derived.Deep.DeepCutAuto
import Derived.OwnWalk
import Derived.Lib.Bytealg
import Derived.Laws.Externs
import Derived.Laws.CopyRow
import Derived.Laws.IdiomCopy
import Derived.Maps.OwnSet
import Derived.Maps.RangeWalk
import Derived.Shelf.SortM.Plain
import Derived.Shelf.SortM.SortNone
import Derived.Ground.SlgmProg
import Derived.Maps.OwnOps
import Derived.Lib.ItoaNum
import Derived.Lib.Join
import Derived.Deep.WholeRow
import Derived.Shelf.Strconv.Itoa4
import Derived.Shelf.Strings.BuilderK
import Derived.Shelf.Strings.OnBuilder
import Derived.Ground.NamesProg
import Derived.Lib.AppendIntMem
import Derived.Lib.UnsafeStr
import Derived.Maps.Views
set_option linter.unusedVariables false
set_option linter.unusedSimpArgs false
namespace Go.Proofs.YtpjcebajkfeacaaGreatDoor
open Go Go.RowKit Go.Deep
theorem Tryz.infoRq : (Tryz.prog.info? 29).map (fun i => (i.zero, i.size, i.bytes)) = some (some (.agg #[.int .i64 0, .int .u64 0, .string ⟨#[]⟩, .slice none 0 0]), 4, 56) := by kernel_rfl
theorem req_app {w : World} {S T : Nat → Prop} {v : Value} {l : List Req} (h : Own requestSh 29 w S v l) {b : Nat} {cs : Array Value} {z : Req} (hg : w.heap[b]? = some (.cells cs 29 (0, 0))) (hx : Rd requestSh w T cs.toList z) (hT : ∀ k, S k → ¬ T k) (hl : l.length ≤ 1048576) :
    ∃ a c w', (Builtin.append_ #[65, 65] 65 #[v, .slice (some ⟨b, 0, none⟩) 1 1]).run Tryz.prog w = .ok (.slice a (l.length + 1) c) w' ∧ Own requestSh 29 w' (fun k => (S k ∨ T k ∨ k = w.heap.size) ∧ k < w'.heap.size) (.slice a (l.length + 1) c) (l ++ [z]) ∧ Keep S w w' := by
  obtain ⟨i0, hi, hz0, hz1, hz2⟩ := info_parts Tryz.infoRq
  obtain ⟨a, c, w', hrun, ho, hk, -⟩ := Own.append h 65 65 i0 _ 56 Tryz.underlying65 hi hz0 hz1 hz2 rfl hg hx hT (by omega) (by omega) 1
  exact ⟨a, c, w', hrun, ho.live, hk⟩
theorem int_app {w : World} {S : Nat → Prop} {v : Value} {l : List Int} (h : Own (.int .i64) 3 w S v l) {b : Nat} {n : Int} (hg : w.heap[b]? = some (.cells #[.int .i64 n] 3 (0, 0))) (hw : (Lit.int .i64 n).wf = true) (hl : l.length ≤ 1048576) :
    ∃ a c w', (Builtin.append_ #[66, 66] 66 #[v, .slice (some ⟨b, 0, none⟩) 1 1]).run Tryz.prog w = .ok (.slice a (l.length + 1) c) w' ∧ Own (.int .i64) 3 w' (fun k => (S k ∨ k = w.heap.size) ∧ k < w'.heap.size) (.slice a (l.length + 1) c) (l ++ [n]) ∧ Keep S w w' := by
  obtain ⟨i0, hi, hz0, hz1, hz2⟩ := info_parts Tryz.infoClI
  obtain ⟨a, c, w', hrun, ho, hk, -⟩ := Own.append (T := No) h 66 66 i0 _ 8 Tryz.underlying66 hi hz0 hz1 hz2 rfl hg ⟨rfl, hw⟩ (fun _ _ x => x) (by omega) (by omega) 1
  exact ⟨a, c, w', hrun, ho.live.mono fun k hk => ⟨hk.1.elim .inl fun x => x.elim (fun x => x.elim) .inr, hk.2⟩, hk⟩
structure AllI (w : World) (s : Nat) (A0 : Nat → Prop) (l : Bytes) (n : Int) (Sa Se A : Nat → Prop) (va ve : Value) (k : Nat) (acc : List (Req × Int)) (cur : Bytes) (nk : Nat) (W : World) : Prop where
  keep : Keep (One s) w W
  st : StreamIn W s A cur (n + nk)
  la : Own requestSh 29 W Sa va (acc.map Prod.fst)
  le : Own (.int .i64) 3 W Se ve (acc.map Prod.snd)
  aA : ∀ k, A k → (A0 k ∨ w.heap.size ≤ k) ∧ k < W.heap.size
  sa : ∀ k, Sa k → w.heap.size ≤ k ∧ k < W.heap.size
  se : ∀ k, Se k → w.heap.size ≤ k ∧ k < W.heap.size
  d1 : ∀ k, Sa k → ¬ A k
  d2 : ∀ k, Se k → ¬ A k
  d3 : ∀ k, Sa k → ¬ Se k
  len : acc.length = k
def AllS (l : Bytes) (k : Nat) (acc : List (Req × Int)) (cur : Bytes) (nk : Nat) : Prop :=
  allF 20000 l = (acc ++ (allF (20000 - k) cur).1, (allF (20000 - k) cur).2.1, nk + (allF (20000 - k) cur).2.2) ∧ nk + cur.length ≤ l.length
theorem allF_zero (l : Bytes) : allF 0 l = ([], l, 0) := rfl
theorem allF_succ (f : Nat) (l : Bytes) : allF (f + 1) l = if (nextB l).1.2.2 = true then (((nextB l).1.1, (nextB l).1.2.1) :: (allF f (nextB l).2.1).1, (allF f (nextB l).2.1).2.1, (nextB l).2.2 + (allF f (nextB l).2.1).2.2)
    else ([], (nextB l).2.1, (nextB l).2.2) := rfl
theorem nextB_len (l : Bytes) : (nextB l).2.1.length + (nextB l).2.2 ≤ l.length := by
  have h := skip_le l
  unfold nextB
  simp only
  split
  · simp only [List.length_drop]; omega
  · simp only [List.length_drop]; omega
theorem AllS.stop {l : Bytes} {k : Nat} {acc : List (Req × Int)} {cur : Bytes} {nk : Nat} (h : AllS l k acc cur nk) (hk : k < 20000) {z : Req} {ez : Int} {cur' : Bytes} {k' : Nat} (hx : nextB cur = ((z, ez, false), cur', k')) : allF 20000 l = (acc, cur', nk + k') := by
  obtain ⟨h1, -⟩ := h
  rw [show 20000 - k = (19999 - k) + 1 by omega, allF_succ (19999 - k) cur, hx, if_neg (by simp)] at h1
  rw [h1, List.append_nil]
theorem AllS.go {l : Bytes} {k : Nat} {acc : List (Req × Int)} {cur : Bytes} {nk : Nat} (h : AllS l k acc cur nk) (hk : k < 20000) {z : Req} {ez : Int} {cur' : Bytes} {k' : Nat} (hx : nextB cur = ((z, ez, true), cur', k')) : AllS l (k + 1) (acc ++ [(z, ez)]) cur' (nk + k') := by
  obtain ⟨h1, h2⟩ := h
  have hn := nextB_len cur
  rw [hx] at hn
  refine ⟨?_, by simp only at hn; omega⟩
  rw [h1, show 20000 - k = (20000 - (k + 1)) + 1 by omega, allF_succ (20000 - (k + 1)) cur, hx, if_pos rfl, List.append_assoc, Nat.add_assoc]
  rfl
theorem AllS.last {l : Bytes} {acc : List (Req × Int)} {cur : Bytes} {nk : Nat} (h : AllS l 20000 acc cur nk) : allF 20000 l = (acc, cur, nk) := by
  obtain ⟨h1, -⟩ := h
  rw [Nat.sub_self, allF_zero] at h1
  rw [h1, List.append_nil, Nat.add_zero]
def AllOf (w : World) (s : Nat) (A0 : Nat → Prop) (n : Int) (x : List (Req × Int) × Bytes × Nat) (e : Ending) (w' : World) : Prop :=
  ∃ a c a2 c2, e = .returned (.tuple #[.slice a x.1.length c, .slice a2 x.1.length c2]) ∧
    RowKit.Hid (∃ Sa Se A, Keep (One s) w w' ∧ StreamIn w' s A x.2.1 (n + x.2.2) ∧ Own requestSh 29 w' Sa (.slice a x.1.length c) (x.1.map Prod.fst) ∧ Own (.int .i64) 3 w' Se (.slice a2 x.1.length c2) (x.1.map Prod.snd) ∧
      (∀ k, A k → (A0 k ∨ w.heap.size ≤ k) ∧ k < w'.heap.size) ∧ (∀ k, Sa k → w.heap.size ≤ k ∧ k < w'.heap.size) ∧ (∀ k, Se k → w.heap.size ≤ k ∧ k < w'.heap.size) ∧ (∀ k, Sa k → ¬ A k) ∧ (∀ k, Se k → ¬ A k) ∧ ∀ k, Sa k → ¬ Se k)
theorem AllI.done {w : World} {s : Nat} {A0 : Nat → Prop} {l : Bytes} {n : Int} {Sa Se A : Nat → Prop} {a a2 : Option Addr} {c c2 : Nat} {k : Nat} {acc : List (Req × Int)} {cur : Bytes} {nk : Nat} {W : World} (h : AllI w s A0 l n Sa Se A (.slice a k c) (.slice a2 k c2) k acc cur nk W) (hs : allF 20000 l = (acc, cur, nk)) :
    AllOf w s A0 n (allF 20000 l) (.returned (.tuple #[.slice a k c, .slice a2 k c2])) W := by
  rw [hs]
  obtain ⟨h1, h2, h3, h4, h5, h6, h7, h8, h9, h10, rfl⟩ := h
  exact ⟨a, c, a2, c2, rfl, Sa, Se, A, h1, h2, h3, h4, h5, h6, h7, h8, h9, h10⟩
theorem AllI.more {w : World} {s : Nat} {A0 : Nat → Prop} {l : Bytes} {n : Int} {Sa Se A : Nat → Prop} {va ve : Value} {k : Nat} {acc : List (Req × Int)} {cur : Bytes} {nk : Nat} {W W' : World} (h : AllI w s A0 l n Sa Se A va ve k acc cur nk W) (hk : Keep No W W') : AllI w s A0 l n Sa Se A va ve k acc cur nk W' :=
  ⟨h.keep.thenNo hk, h.st.keep hk (fun x => x) (fun _ _ x => x), h.la.agree hk.agreeNo, h.le.agree hk.agreeNo, fun i hi => ⟨(h.aA i hi).1, Nat.lt_of_lt_of_le (h.aA i hi).2 hk.size⟩, fun i hi => ⟨(h.sa i hi).1, Nat.lt_of_lt_of_le (h.sa i hi).2 hk.size⟩, fun i hi => ⟨(h.se i hi).1, Nat.lt_of_lt_of_le (h.se i hi).2 hk.size⟩, h.d1, h.d2, h.d3, h.len⟩
theorem AllI.next {w : World} {s : Nat} {A0 : Nat → Prop} {l : Bytes} {n : Int} {Sa Se A : Nat → Prop} {va ve : Value} {k : Nat} {acc : List (Req × Int)} {cur : Bytes} {nk : Nat} {W W' : World} (h : AllI w s A0 l n Sa Se A va ve k acc cur nk W) (hs : s < w.heap.size) {mid : Nat} {cur' : Bytes} {k' : Nat} (h1 : W.heap.size ≤ mid) (hst : StreamIn W' s (Fr mid W'.heap.size) cur' (n + nk + k')) (hk : Keep (One s) W W') :
    AllI w s A0 l n Sa Se (Fr mid W'.heap.size) va ve k acc cur' (nk + k') W' := by
  have ec : n + ((nk + k' : Nat) : Int) = n + nk + k' := by omega
  refine ⟨h.keep.trans hk, by rw [ec]; exact hst, h.la.agree (hk.agree fun i _ hi e => by have : i = s := e; have := (h.sa i hi).1; omega), h.le.agree (hk.agree fun i _ hi e => by have : i = s := e; have := (h.se i hi).1; omega),
    fun i hi => ⟨.inr (Nat.le_trans h.keep.size (Nat.le_trans h1 hi.1)), hi.2⟩, fun i hi => ⟨(h.sa i hi).1, Nat.lt_of_lt_of_le (h.sa i hi).2 hk.size⟩, fun i hi => ⟨(h.se i hi).1, Nat.lt_of_lt_of_le (h.se i hi).2 hk.size⟩,
    fun i hi e => by have := (h.sa i hi).2; have := e.1; omega, fun i hi e => by have := (h.se i hi).2; have := e.1; omega, h.d3, h.len⟩
theorem reqGet_wf {b : Bytes} (hA : AllB b) : (Lit.int .i64 (reqGet b).2.1).wf = true := by
  have := reqGet_ok hA
  exact wf_i64 (by omega) (by omega)
theorem own_all {w : World} {S : Nat → Prop} {v : Value} {l : Bytes} (h : Own (.int .u8) 5 w S v l) : AllB l := bytes_all (Own.rd h)
theorem open_all {l : Bytes} (h : AllB l) : AllB (openB l).1 := by
  unfold openB
  split
  · exact AllB.nil
  · split
    · exact AllB.nil
    · split
      · exact AllB.nil
      · split
        · exact AllB.nil
        · exact fun x hx => h x (List.mem_of_mem_take (List.mem_of_mem_drop hx))
theorem next_wf {l : Bytes} (h : AllB l) : (Lit.int .i64 (nextB l).1.2.1).wf = true := by
  have hd : AllB (l.drop (skipB l)) := fun x hx => h x (List.mem_of_mem_drop hx)
  unfold nextB
  simp only
  split
  · exact wf_i64 (n := 0) (by omega) (by omega)
  · exact reqGet_wf (open_all hd)
set_option maxRecDepth 10000 in
set_option maxHeartbeats 4000000 in
theorem all9_any (w : World) (s : Nat) (A0 : Nat → Prop) (l : Bytes) (n : Int) (h : StreamIn w s A0 l n) (hA : ∀ k, A0 k → k < w.heap.size) (hl : l.length ≤ 1048576) (h0 : 0 ≤ n) (hn : n ≤ 1048576000) :
    Calls Tryz.prog 33 #[.pointer (some ⟨s, 0, none⟩)] w (AllOf w s A0 n (allF 20000 l)) := by
  have hsw := h.lt
  have HB := Lib.hid (And.intro hl (And.intro h0 (And.intro hn hsw)))
  have HI0 : RowKit.Hid (AllI w s A0 l n No No A0 (.slice none 0 0) (.slice none 0 0) 0 [] l 0 w) :=
    ⟨Keep.refl _ _, by simpa using h, Own.nil _ _ _ _, Own.nil _ _ _ _, fun k hk => ⟨.inl hk, hA k hk⟩, fun _ x => x.elim, fun _ x => x.elim, fun _ x => x.elim, fun _ x => x.elim, fun _ x => x.elim, rfl⟩
  clear h hA hl h0 hn hsw
  go_enter Tryz.func33, Tryz.ntmps33
  go_wp2_with fail
  go_loopg [4, 5, 6] 20000 (fun g va ve i wr => ∃ k, k ≤ 20000 ∧ g = 20000 - k ∧ i = .int .i64 k ∧ ∃ a c a2 c2 Sa Se A acc cur nk, va = .slice a k c ∧ ve = .slice a2 k c2 ∧ RowKit.Hid (AllI w s A0 l n Sa Se A (.slice a k c) (.slice a2 k c2) k acc cur nk wr ∧ AllS l k acc cur nk))
  case atStart => exact ⟨0, by omega, by omega, rfl, none, 0, none, 0, No, No, A0, [], l, 0, rfl, rfl, HI0.out, by simp, by omega⟩
  case round =>
    clear HI0
    obtain ⟨k, hk, rfl, rfl, a, c, a2, c2, Sa, Se, A, acc, cur, nk, rfl, rfl, HI⟩ := hrel
    have j0 : (0 : Int) ≤ (k : Int) := by omega
    by_cases hlt : k < 20000
    · have j1 : (k : Int) < 20000 := by omega
      have HL := Lib.hid hlt
      clear hk hlt
      obtain ⟨z, ez, ok, cur', k', hnx⟩ : ∃ z ez ok cur' k', nextB cur = ((z, ez, ok), cur', k') := ⟨_, _, _, _, _, rfl⟩
      have hns := (stNext_any wr s A cur (n + nk) HI.out.1.st (fun i hi => (HI.out.1.aA i hi).2) (by have := HI.out.2.2; have := HB.out.1; omega) (by have := HB.out.2.1; omega) (by have := HB.out.2.2.1; have := HI.out.2.2; have := HB.out.1; omega)).mono (R' := fun e w1 => ∃ az cz, e = .returned (.tuple #[.agg #[.int .i64 z.client, .int .u64 z.token, .string z.name, .slice az z.args.length cz], .int .i64 ez, .bool ok]) ∧
          RowKit.Hid (∃ mid, wr.heap.size ≤ mid ∧ mid ≤ w1.heap.size ∧ Rd requestSh w1 (Fr wr.heap.size mid) [.int .i64 z.client, .int .u64 z.token, .string z.name, .slice az z.args.length cz] z ∧ StreamIn w1 s (Fr mid w1.heap.size) cur' (n + nk + k') ∧ Keep (One s) wr w1)) (by
        rw [hnx]
        rintro e w1 ⟨mid, az, cz, rfl, h⟩
        exact ⟨az, cz, rfl, mid, h.out⟩)
      have hwf : (Lit.int .i64 ez).wf = true := by
        obtain ⟨a', m', c', hst⟩ := HI.out.1.st
        have := next_wf (own_all hst.own)
        rw [hnx] at this
        exact this
      have HX := Lib.hid (And.intro hnx hwf)
      clear hnx hwf
      go_upto_region 7 with (go_at_call 32; refine hns.mono ?_; clear hns; rintro e w1 ⟨az, cz, rfl, H1⟩)
      have K2 := (Keep.refl No w1).alloc (.cells #[.int .i64 z.client, .int .u64 z.token, .string z.name, .slice az z.args.length cz] 29)
      have z2 := blk_new w1 (.cells #[.int .i64 z.client, .int .u64 z.token, .string z.name, .slice az z.args.length cz] 29)
      generalize (w1.alloc (.cells #[.int .i64 z.client, .int .u64 z.token, .string z.name, .slice az z.args.length cz] 29)) = w2 at *
      obtain ⟨Z, hZ⟩ : ∃ Z, w1.heap.size = Z := ⟨_, rfl⟩
      rw [hZ] at z2
      try rw [hZ]
      cases ok with
      | false =>
        have HD := Lib.hid (by
          obtain ⟨mid, h1, -, -, h4, h5⟩ := H1.out
          exact ((HI.out.1.next HB.out.2.2.2 h1 h4 h5).more K2).done (HI.out.2.stop HL.out HX.out.1) : AllOf w s A0 n (allF 20000 l) (.returned (.tuple #[.slice a k c, .slice a2 k c2])) w2)
        clear H1 K2 z2 hZ HI
        go_wp2_with fail
        go_ret2
        exact HD.out
      | true =>
        have H2 : RowKit.Hid (∃ mid, wr.heap.size ≤ mid ∧ mid ≤ w1.heap.size ∧ Rd requestSh w2 (Fr wr.heap.size mid) [.int .i64 z.client, .int .u64 z.token, .string z.name, .slice az z.args.length cz] z ∧ AllI w s A0 l n Sa Se (Fr mid w1.heap.size) (.slice a k c) (.slice a2 k c2) k acc cur' (nk + k') w2 ∧ (∀ i, Sa i → i < wr.heap.size) ∧ ∀ i, Se i → i < wr.heap.size) := by
          obtain ⟨mid, h1, h2, h3, h4, h5⟩ := H1.out
          exact ⟨mid, h1, h2, h3.agree _ K2.agreeNo, (HI.out.1.next HB.out.2.2.2 h1 h4 h5).more K2, fun i hi => (HI.out.1.sa i hi).2, fun i hi => (HI.out.1.se i hi).2⟩
        have HS := Lib.hid (HI.out.2.go HL.out HX.out.1)
        have HZ2 := Lib.hid (And.intro (show w1.heap.size < w2.heap.size by have := blk_lt z2; omega) HI.out.1.keep.size)
        clear H1 HI
        -- the request is laid behind the others
        have K3 := (Keep.refl No w2).alloc (.cells #[.int .i64 z.client, .int .u64 z.token, .string z.name, .slice az z.args.length cz] 29)
        have b3 := blk_new w2 (.cells #[.int .i64 z.client, .int .u64 z.token, .string z.name, .slice az z.args.length cz] 29)
        have hq := (by
          obtain ⟨mid, h1, h2, h3, h4, h5, h6⟩ := H2.out
          have hlen := h4.len
          obtain ⟨a4, c4, w4, hrun, ho, hk⟩ := req_app (h4.la.agree K3.agreeNo) b3 (h3.agree requestSh K3.agreeNo) (fun i hi e => by have := h5 i hi; have := e.1; omega) (by have := HL.out; simp; omega)
          rw [List.length_map, hlen] at hrun ho
          exact ⟨a4, c4, w4, hrun, mid, h1, h2, h4, h5, h6, ho, hk⟩ : ∃ a4 c4 w4, (Builtin.append_ #[65, 65] 65 #[.slice a k c, .slice (some ⟨w2.heap.size, 0, none⟩) 1 1]).run Tryz.prog (w2.alloc (.cells #[.int .i64 z.client, .int .u64 z.token, .string z.name, .slice az z.args.length cz] 29)) = .ok (.slice a4 (k + 1) c4) w4 ∧
            ∃ mid, wr.heap.size ≤ mid ∧ mid ≤ w1.heap.size ∧ AllI w s A0 l n Sa Se (Fr mid w1.heap.size) (.slice a k c) (.slice a2 k c2) k acc cur' (nk + k') w2 ∧ (∀ i, Sa i → i < wr.heap.size) ∧ (∀ i, Se i → i < wr.heap.size) ∧
              Own requestSh 29 w4 (fun i => (Sa i ∨ Fr wr.heap.size mid i ∨ i = (w2.alloc (.cells #[.int .i64 z.client, .int .u64 z.token, .string z.name, .slice az z.args.length cz] 29)).heap.size) ∧ i < w4.heap.size) (.slice a4 (k + 1) c4) (acc.map Prod.fst ++ [z]) ∧ Keep Sa (w2.alloc (.cells #[.int .i64 z.client, .int .u64 z.token, .string z.name, .slice az z.args.length cz] 29)) w4)
        obtain ⟨a4, c4, w4, hrun4, hq⟩ := hq
        have HQ := Lib.hid hq
        have qz := blk_cell z2
        clear hq H2 b3
        go_upto_region 9 with (at_builtin; refine wpList_app rfl (.tmp 22) (.tmp 24) 65 65 rfl rfl rfl hrun4 ?_)
        clear qz hrun4
        obtain ⟨w3, hw3⟩ : ∃ w3, w2.alloc (.cells #[.int .i64 z.client, .int .u64 z.token, .string z.name, .slice az z.args.length cz] 29) = w3 := ⟨_, rfl⟩
        rw [hw3] at HQ K3
        have HK3 := Lib.hid K3
        clear hw3 K3 z2 K2
        -- its code is laid behind the others
        have K5 := (Keep.refl No w4).alloc (.cells #[.int .i64 ez] 3)
        have b5 := blk_new w4 (.cells #[.int .i64 ez] 3)
        have hq := (by
          obtain ⟨mid, h1, h2, h4, h5, h6, ho, hk⟩ := HQ.out
          have hlen := h4.len
          have hk24 : Keep Sa w2 w4 := (HK3.out.mono fun _ _ x => x.elim).trans hk
          have hle : Own (.int .i64) 3 w4 Se (.slice a2 k c2) (acc.map Prod.snd) := h4.le.agree (hk24.agree fun i _ hi e => h4.d3 i e hi)
          obtain ⟨a6, c6, w6, hrun, ho6, hk6⟩ := int_app (hle.agree K5.agreeNo) b5 HX.out.2 (by have := HL.out; simp; omega)
          rw [List.length_map, hlen] at hrun ho6
          refine ⟨a6, c6, w6, hrun, (fun i => (Sa i ∨ Fr wr.heap.size mid i ∨ i = w3.heap.size) ∧ i < w4.heap.size), (fun i => (Se i ∨ i = (w4.alloc (.cells #[.int .i64 ez] 3)).heap.size) ∧ i < w6.heap.size), Fr mid w1.heap.size, ?_⟩
          have hs3 := HK3.out.size
          have hs4 := hk.size
          have hs6 := hk6.size
          have hs5 : (w4.alloc (.cells #[.int .i64 ez] 3)).heap.size = w4.heap.size + 1 := by simp
          have hkw := h4.keep.size
          have hsw := HB.out.2.2.2
          have hz2 := HZ2.out
          refine ⟨((((h4.keep.thenNo HK3.out).then hk (fun i hi hm => by have := (h4.sa i hm).1; omega)).thenNo K5).then hk6 (fun i hi hm => by have := (h4.se i hm).1; omega)),
            (((h4.st.keep HK3.out (fun x => x) (fun _ _ x => x)).keep hk (fun e => by have := (h4.sa s e).1; omega) (fun i hi e => h4.d1 i e hi)).keep K5 (fun x => x) (fun _ _ x => x)).keep hk6 (fun e => by have := (h4.se s e).1; omega) (fun i hi e => h4.d2 i e hi),
            ?_, ?_, fun i hi => ⟨(h4.aA i hi).1, by have := (h4.aA i hi).2; omega⟩, ?_, ?_, ?_, ?_, ?_, by simp [hlen]⟩
          · rw [List.map_append]
            refine (ho.agree K5.agreeNo).agree (hk6.agree fun i _ hi e => ?_)
            rcases hi.1 with hi | hi | hi
            · exact h4.d3 i hi e
            · have := h6 i e; have := hi.1; omega
            · have := (h4.se i e).2; omega
          · rw [List.map_append]
            exact ho6
          · rintro i ⟨hi | hi | hi, hlt⟩
            · exact ⟨(h4.sa i hi).1, by omega⟩
            · exact ⟨by have := hi.1; omega, by omega⟩
            · exact ⟨by omega, by omega⟩
          · rintro i ⟨hi | hi, hlt⟩
            · exact ⟨(h4.se i hi).1, hlt⟩
            · exact ⟨by omega, hlt⟩
          · rintro i ⟨hi | hi | hi, hlt⟩ hA
            · exact h4.d1 i hi hA
            · have := hi.2; have := hA.1; omega
            · have := hA.2; omega
          · rintro i ⟨hi | hi, hlt⟩ hA
            · exact h4.d2 i hi hA
            · have := hA.2; omega
          · rintro i ⟨hi | hi | hi, hlt⟩ ⟨he | he, hlt'⟩
            · exact h4.d3 i hi he
            · omega
            · have := h6 i he; have := hi.1; omega
            · omega
            · have := (h4.se i he).2; omega
            · omega : ∃ a6 c6 w6, (Builtin.append_ #[66, 66] 66 #[.slice a2 k c2, .slice (some ⟨w4.heap.size, 0, none⟩) 1 1]).run Tryz.prog (w4.alloc (.cells #[.int .i64 ez] 3)) = .ok (.slice a6 (k + 1) c6) w6 ∧
            ∃ Sa' Se' A', AllI w s A0 l n Sa' Se' A' (.slice a4 (k + 1) c4) (.slice a6 (k + 1) c6) (k + 1) (acc ++ [(z, ez)]) cur' (nk + k') w6)
        obtain ⟨a6, c6, w6, hrun6, Sa', Se', A', hq⟩ := hq
        have HA := Lib.hid hq
        clear hq HQ K5 b5 HK3
        go_wp2_with (first | (go_at_call 12; refine (num9_eq _ _).mono ?_; rintro e w20 ⟨rfl, rfl⟩) | (at_builtin; refine wpList_app rfl (.tmp 26) (.tmp 29) 66 66 rfl rfl rfl hrun6 ?_))
        go_roundg (20000 - (k + 1))
        case measure => have := HL.out; omega
        case rel => exact ⟨k + 1, HL.out, rfl, by simp, a4, c4, a6, c6, Sa', Se', A', acc ++ [(z, ez)], cur', nk + k', rfl, rfl, HA.out, HS.out⟩
    · have j1 : ¬ (k : Int) < 20000 := by omega
      obtain rfl : k = 20000 := by omega
      have HD := Lib.hid (HI.out.1.done HI.out.2.last)
      clear hk hlt HI
      go_wp2_with fail
      go_ret2
      exact HD.out
end Go.Proofs.YtpjcebajkfeacaaGreatDoor
