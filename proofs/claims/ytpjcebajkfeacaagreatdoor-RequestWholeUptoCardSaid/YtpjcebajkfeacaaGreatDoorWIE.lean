/-
  Parts of what is proved for this claim; each declaration is one of the seat's texts.
-/
import Derived.Test.YtpjcebajkfeacaaGreatDoorWGA
import Derived.Test.YtpjcebajkfeacaaGreatDoorWGC
import Derived.Test.YtpjcebajkfeacaaGreatDoorWGD
import Derived.Test.YtpjcebajkfeacaaGreatDoorWHD
import Derived.Test.YtpjcebajkfeacaaGreatDoorWHL
import Derived.Test.YtpjcebajkfeacaaGreatDoorWHT
import Derived.Test.YtpjcebajkfeacaaGreatDoorWHU
import Derived.Test.YtpjcebajkfeacaaGreatDoorWHW
import Derived.Test.YtpjcebajkfeacaaGreatDoorWIA
import Derived.Test.YtpjcebajkfeacaaGreatDoorWIB
import Derived.Test.YtpjcebajkfeacaaGreatDoorWIC
import Derived.Still
import Derived.StillTactics
import Derived.WalkKit
import Derived.Recover
import Derived.Defers
import Derived.Deep.QuietTactic
import Derived.BigQuiet
import Derived.Handy
import Derived.Laws.Bits64b
import Derived.Lib.Zigzag
import Derived.WalkSpells
import Derived.WalkLawsBesides
import Derived.ProofKit
import Derived.Deep.Slices
import Derived.Deep.AppendSrc
import Derived.Lib.Hide
import Derived.Lib.EndianBits
import Derived.OpenShut
import Derived.Deep.LoopGhost
import Derived.Deep.DeepCutAuto
import Derived.OwnWalk
import Derived.Lib.Bytealg
import Derived.Laws.Externs
import Derived.Laws.CopyRow
import Derived.Laws.IdiomCopy
import Derived.Maps.OwnSet
import Derived.Maps.RangeWalk
import Derived.Shelf.SortM.Plain
import Derived.Shelf.SortM.SortNone
import Derived.Ground.SlgmProg
import Derived.Maps.OwnOps
import Derived.Lib.ItoaNum
import Derived.Lib.Join
import Derived.Deep.WholeRow
import Derived.Shelf.Strconv.Itoa4
import Derived.Shelf.Strings.BuilderK
import Derived.Shelf.Strings.OnBuilder
import Derived.Ground.NamesProg
import Derived.Lib.AppendIntMem
import Derived.Lib.UnsafeStr
import Derived.Maps.Views
import Derived.Lib.VarintBits
set_option linter.unusedVariables false
set_option linter.unusedSimpArgs false
namespace Go.Proofs.YtpjcebajkfeacaaGreatDoor
open Go Go.RowKit Go.Deep
theorem next_frame (q : Req) (hc : q.check = 0) (hi : q.In) (r : Bytes) : nextB (sealB q.bytes ++ r) = ((q, 0, true), r, 0) := by
  have hl := Req.bytes_length hc
  have ho := open_seal q.bytes r (by omega)
  have hg : get4B (sealB q.bytes ++ r) = q.bytes.length := by
    unfold sealB headB
    rw [List.append_assoc, List.append_assoc]
    exact get4_put4 _ (by omega) (by omega) _
  have hw : wrongB (sealB q.bytes ++ r) = false := by
    unfold wrongB wrongE
    rw [ho, hg]
    simp only [show decide ((0 : Int) = 1) = false from rfl, show decide ((0 : Int) = 12) = false from rfl, Bool.false_or, Bool.and_eq_false_iff, decide_eq_false_iff_not]
    right
    omega
  have hs : skipB (sealB q.bytes ++ r) = 0 := skip_is (fun j hj => absurd hj (Nat.not_lt_zero _)) (by simpa using hw)
  have e := next_some (l := sealB q.bytes ++ r) (k := 0) (ld := q.bytes) (tk := 4 + q.bytes.length + 4) hs (by rw [List.drop_zero]; exact ho)
  rw [e, reqGet_bytes q hc hi]
  have hln : (sealB q.bytes).length = 4 + q.bytes.length + 4 := by simp only [sealB, headB, List.length_append, put4_length]
  rw [Nat.zero_add, List.drop_left' hln]
theorem sealed_len (q : Req) : q.sealed.length ≤ 1032 := by
  unfold Req.sealed
  split
  · rename_i hc
    have hl := Req.bytes_length hc
    simp only [sealB, headB, List.length_append, put4_length]
    omega
  · simp
theorem tell_frames : ∀ (qs : List Req), (∀ q ∈ qs, q.In) → tellB (qs.flatMap Req.sealed) = ((qs.filter fun q => decide (q.check = 0)).map (fun q => (q, (0 : Int))), [], 0)
  | [], _ => by
    have hn : (nextB []).1.2.2 = false := by
      by_cases h : (nextB []).1.2.2 = true
      · have := next_took h; simp at this
      · simpa using h
    show tellB [] = _
    rw [tell_no hn, (next_no hn).2]
    rfl
  | q :: qs, h => by
    have ih := tell_frames qs fun x hx => h x (List.mem_cons_of_mem _ hx)
    by_cases hc : q.check = 0
    · have e : (q :: qs).flatMap Req.sealed = sealB q.bytes ++ qs.flatMap Req.sealed := by
        rw [List.flatMap_cons, Req.sealed, if_pos hc]
      have hx := next_frame q hc (h q (List.mem_cons_self ..)) (qs.flatMap Req.sealed)
      rw [e, tell_ok (by rw [hx]), hx, ih]
      simp [hc]
    · have e : (q :: qs).flatMap Req.sealed = qs.flatMap Req.sealed := by
        rw [List.flatMap_cons, Req.sealed, if_neg hc, List.nil_append]
      rw [e, ih]
      simp [hc]
def Idle (l : Bytes) : Prop := tellB l = ([], l, 0)
theorem Idle.nil : Idle [] := tell_frames [] (fun _ h => by cases h)
theorem tell_idle : ∀ (m : Nat) (l : Bytes), l.length ≤ m → Idle (tellB l).2.1 := by
  intro m
  induction m with
  | zero =>
    intro l hl
    obtain rfl : l = [] := List.length_eq_zero_iff.1 (by omega)
    rw [Idle.nil]
    exact Idle.nil
  | succ m ih =>
    intro l hl
    cases hb : (nextB l).1.2.2 with
    | true =>
      rw [tell_ok hb]
      exact ih _ (by have := next_took hb; omega)
    | false =>
      rw [tell_no hb]
      obtain ⟨h0, e⟩ := next_no hb
      simp only
      rw [e]
      simp only
      have hs : skipB (l.drop (skipB l)) = 0 := skip_is (fun j hj => absurd hj (Nat.not_lt_zero _)) (by simpa using skip_stop l)
      have e2 := next_none (l := l.drop (skipB l)) (k := 0) (ld := (openB (l.drop (skipB l))).1) (tk := (openB (l.drop (skipB l))).2.1) (er := (openB (l.drop (skipB l))).2.2) hs (by rw [List.drop_zero]) h0
      unfold Idle
      rw [tell_no (by rw [e2]), e2]
      simp only [List.drop_zero]
theorem allF_eight : ∀ (f : Nat) (l : Bytes), l.length ≤ 8 * f → allF f l = tellB l := by
  intro f
  induction f with
  | zero =>
    intro l hl
    obtain rfl : l = [] := List.length_eq_zero_iff.1 (by omega)
    exact Idle.nil.symm ▸ rfl
  | succ f ih =>
    intro l hl
    rw [allF_succ]
    cases hb : (nextB l).1.2.2 with
    | true =>
      rw [if_pos rfl, tell_ok hb, ih _ (by have := next_took hb; omega)]
    | false =>
      rw [if_neg (by simp), tell_no hb]
theorem Asked.allF {T : Bytes} : ∀ (f : Nat) {a : List (Req × Int)} {cur : Bytes} {n : Nat}, Asked T a cur n → Asked T (a ++ (allF f cur).1) (allF f cur).2.1 (n + (allF f cur).2.2)
  | 0, a, cur, n, h => by simpa [Go.Proofs.YtpjcebajkfeacaaGreatDoor.allF] using h
  | f + 1, a, cur, n, h => by
    rw [allF_succ]
    cases hb : (nextB cur).1.2.2 with
    | true =>
      rw [if_pos rfl]
      have := Asked.allF f (h.ok hb)
      simpa [List.append_assoc, Nat.add_assoc] using this
    | false =>
      rw [if_neg (by simp)]
      simpa using h.no hb
theorem whole_part {qs : List Req} (hi : ∀ q ∈ qs, q.In) {T c : Bytes} {acc : List (Req × Int)} {cur : Bytes} {n : Nat} (h : Asked T acc cur n) (hT : T ++ c = qs.flatMap Req.sealed) : ∀ x ∈ acc, x.2 = 0 := by
  have h1 := h c
  rw [hT, tell_frames qs hi] at h1
  have h2 := congrArg Prod.fst h1
  simp only at h2
  intro x hx
  have : x ∈ (qs.filter fun q => decide (q.check = 0)).map (fun q => (q, (0 : Int))) := by rw [h2]; exact List.mem_append_left _ hx
  obtain ⟨q, -, rfl⟩ := List.mem_map.1 this
  rfl
theorem whole_all {qs : List Req} (hi : ∀ q ∈ qs, q.In) {T : Bytes} {acc : List (Req × Int)} {cur : Bytes} {n : Nat} (h : Asked T acc cur n) (hc : Idle cur) (hT : T = qs.flatMap Req.sealed) : acc.map Prod.fst = qs.filter (fun q => decide (q.check = 0)) ∧ cur = [] ∧ n = 0 := by
  have h1 := h.all
  rw [hT, tell_frames qs hi, hc] at h1
  simp only [List.append_nil, Nat.add_zero, Prod.mk.injEq] at h1
  obtain ⟨h1, h2, h3⟩ := h1
  refine ⟨?_, h2.symm, h3.symm⟩
  rw [← h1, List.map_map]
  exact List.map_id' _
end Go.Proofs.YtpjcebajkfeacaaGreatDoor
namespace Go.Proofs.YtpjcebajkfeacaaGreatDoor
open Go Go.RowKit Go.Deep
def OwnO (s : Sh) (e : TypeId) (w : World) (O S : Nat → Prop) (v : Value) (l : List s.T) : Prop :=
  ∃ (g : Option Nat) (rows : List (List Value)), OwnRows w e s.size v g rows ∧ rows.length = l.length ∧ (∀ i (h : i < rows.length) (h' : i < l.length), Rd s w O rows[i] l[i]) ∧ (∀ b, g = some b → S b)
theorem OwnO.nil (s : Sh) (e : TypeId) (w : World) (O S : Nat → Prop) : OwnO s e w O S (.slice none 0 0) [] :=
  ⟨none, [], OwnRows.nil _ _ _, rfl, fun i h => absurd h (Nat.not_lt_zero _), fun b h => by cases h⟩
theorem OwnO.agree {s : Sh} {e : TypeId} {w w' : World} {O S : Nat → Prop} {v : Value} {l : List s.T} (h : OwnO s e w O S v l) (k : Agree S w w') (k' : Agree O w w') : OwnO s e w' O S v l := by
  obtain ⟨g, rows, h1, h2, h3, h4⟩ := h
  exact ⟨g, rows, h1.agree fun b hb => k b (h1.lt hb) (h4 b hb), h2, fun i hi hi' => (h3 i hi hi').agree s k', h4⟩
theorem OwnO.rd {s : Sh} {e : TypeId} {w : World} {O S : Nat → Prop} {v : Value} {l : List s.T} (h : OwnO s e w O S v l) : Rd (.slice s) w (fun k => S k ∨ O k) [v] l := by
  obtain ⟨g, rows, h1, h2, h3, h4⟩ := h
  obtain ⟨a, c, rfl, f1, f2, f3, f4⟩ := h1.form
  refine ⟨a, c, by rw [h2], by omega, f2, fun ha => ⟨?_, (f3 ha).2.1⟩, fun i hi => ?_⟩
  · have := (f3 ha).1
    subst this
    exact List.length_eq_zero_iff.1 (by simpa using h2.symm)
  · obtain ⟨b, off, cap, hg, hv, hr⟩ := h1.at i (by omega)
    simp only [Value.slice.injEq] at hv
    exact ⟨b, off, rows[i], hv.1, h1.lt hg, .inl (h4 b hg), h1.1 _ (List.getElem_mem _), hr, (h3 i (by omega) hi).mono s fun k _ hk => .inr hk⟩
theorem OwnO.req {w : World} {O S : Nat → Prop} {v : Value} {l : List Req} (h : OwnO requestSh 29 w O S v l) {b : Nat} {cs : Array Value} {z : Req} (hg : w.heap[b]? = some (.cells cs 29 (0, 0))) (hx : Rd requestSh w O cs.toList z) (hO : ∀ k, S k → ¬ O k) (hl : l.length ≤ 1048576) :
    ∃ a c w', (Builtin.append_ #[65, 65] 65 #[v, .slice (some ⟨b, 0, none⟩) 1 1]).run Tryz.prog w = .ok (.slice a (l.length + 1) c) w' ∧ OwnO requestSh 29 w' O (fun k => S k ∨ (k = w.heap.size ∧ k < w'.heap.size)) (.slice a (l.length + 1) c) (l ++ [z]) ∧ Keep S w w' := by
  obtain ⟨i0, hi, hz0, hz1, hz2⟩ := info_parts Tryz.infoRq
  obtain ⟨g, rows, h1, h2, h3, h4⟩ := h
  have hlen : cs.toList.length = requestSh.size := hx.length requestSh
  have hsrc : Src Tryz.prog requestSh.size 65 (.slice (some ⟨b, 0, none⟩) 1 1) [cs.toList].length [cs.toList].flatten w := by
    simp only [List.flatten_cons, List.flatten_nil, List.append_nil]
    exact Src.ofBlock Tryz.underlying65 b 1 1 cs 29 (0, 0) hg (by simpa using hlen) (hx.one requestSh)
  obtain ⟨a, c, w', g', hr, ho, hg', hk, hs⟩ := own_append h1 65 65 65 i0 _ 56 Tryz.underlying65 hi hz0 hz1 hz2 rfl hsrc (by simpa using hlen) (by simp; omega) (by simp only [List.length_singleton]; omega)
  simp only [List.length_singleton, h2] at hr ho
  have hk' : Keep S w w' := hk.mono fun k _ hgk => h4 k hgk
  have hao : Agree O w w' := hk.agree fun k _ hu hgk => hO k (h4 k hgk) hu
  refine ⟨a, c, w', hr, ⟨g', rows ++ [cs.toList], ho, by simp [h2], fun j hj hj' => ?_, fun k hgk => ?_⟩, hk'⟩
  · by_cases hjl : j < rows.length
    · rw [List.getElem_append_left hjl, List.getElem_append_left (by omega)]
      exact (h3 j hjl (by omega)).agree requestSh hao
    · have : j = rows.length := by simp at hj; omega
      subst this
      rw [List.getElem_append_right (by omega)]
      simp only [h2, List.getElem_concat_length, Nat.sub_self, List.getElem_singleton]
      exact hx.agree requestSh hao
  · rcases hg' with rfl | rfl
    · exact .inl (h4 k hgk)
    · have := ho.lt hgk
      cases hgk
      exact .inr ⟨rfl, this⟩
structure WhB (w : World) (vb : Value) (B : Bytes) (vw : Value) (L : List Req) (W : World) : Prop where
  keep : Keep No w W
  ex : ∃ Sb Sw, Own (.int .u8) 5 W Sb vb B ∧ OwnO requestSh 29 W (Lt w.heap.size) Sw vw L ∧ (∀ k, Sb k → w.heap.size ≤ k ∧ k < W.heap.size) ∧ (∀ k, Sw k → w.heap.size ≤ k ∧ k < W.heap.size) ∧ ∀ k, Sb k → ¬ Sw k
section
variable {w : World} {vb vw : Value} {B : Bytes} {L : List Req} {W W' : World}
theorem WhB.nil (w : World) : WhB w (.slice none 0 0) [] (.slice none 0 0) [] w :=
  ⟨Keep.refl _ _, No, No, Own.nil _ _ _ _, OwnO.nil _ _ _ _ _, fun _ x => x.elim, fun _ x => x.elim, fun _ x => x.elim⟩
theorem WhB.more (h : WhB w vb B vw L W) (hk : Keep No W W') : WhB w vb B vw L W' := by
  obtain ⟨h0, Sb, Sw, h1, h2, h3, h4, h5⟩ := h
  exact ⟨h0.trans hk, Sb, Sw, h1.agree hk.agreeNo, h2.agree hk.agreeNo hk.agreeNo, fun k hk' => ⟨(h3 k hk').1, Nat.lt_of_lt_of_le (h3 k hk').2 hk.size⟩, fun k hk' => ⟨(h4 k hk').1, Nat.lt_of_lt_of_le (h4 k hk').2 hk.size⟩, h5⟩
theorem WhB.bytes (h : WhB w vb B vw L W) {U : Nat → Prop} {u : Value} {x : Bytes} (hp : Rd bytesSh W U [u] x) (hl : B.length + x.length ≤ 140737488355328) :
    ∃ a c W', (Builtin.append_ #[25, 25] 25 #[vb, u]).run Tryz.prog W = .ok (.slice a (B.length + x.length) c) W' ∧ RowKit.Hid (WhB w (.slice a (B.length + x.length) c) (B ++ x) vw L W') := by
  obtain ⟨h0, Sb, Sw, h1, h2, h3, h4, h5⟩ := h
  obtain ⟨a', c', w', hrun, ho, hk⟩ := own_bytes h1 hp hl
  have sz := hk.size
  refine ⟨a', c', w', hrun, h0.then hk fun i hi hm => by have := (h3 i hm).1; omega, _, Sw, ho.live, h2.agree (hk.agree fun i _ hi e => h5 i e hi) (hk.agree fun i _ hi e => by have := (h3 i e).1; have : i < w.heap.size := hi; omega), ?_, fun k hk' => ⟨(h4 k hk').1, Nat.lt_of_lt_of_le (h4 k hk').2 sz⟩, ?_⟩
  · rintro k ⟨hk' | hk', hlt⟩
    · exact ⟨(h3 k hk').1, hlt⟩
    · exact ⟨Nat.le_trans h0.size hk'.1, hlt⟩
  · rintro k ⟨hk' | hk', hlt⟩ hw
    · exact h5 k hk' hw
    · have := (h4 k hw).2; have := hk'.1; omega
theorem WhB.req (h : WhB w vb B vw L W) {b : Nat} {cs : Array Value} {z : Req} (hg : W.heap[b]? = some (.cells cs 29 (0, 0))) (hx : Rd requestSh W (Lt w.heap.size) cs.toList z) (hl : L.length ≤ 1048576) :
    ∃ a c W', (Builtin.append_ #[65, 65] 65 #[vw, .slice (some ⟨b, 0, none⟩) 1 1]).run Tryz.prog W = .ok (.slice a (L.length + 1) c) W' ∧ RowKit.Hid (WhB w vb B (.slice a (L.length + 1) c) (L ++ [z]) W') := by
  obtain ⟨h0, Sb, Sw, h1, h2, h3, h4, h5⟩ := h
  obtain ⟨a, c, w', hrun, ho, hk⟩ := h2.req hg hx (fun k hk e => by have := (h4 k hk).1; have : k < w.heap.size := e; omega) hl
  have sz := hk.size
  refine ⟨a, c, w', hrun, h0.then hk fun i hi hm => by have := (h4 i hm).1; omega, Sb, _, h1.agree (hk.agree fun i _ hi e => h5 i hi e), ho, fun k hk' => ⟨(h3 k hk').1, Nat.lt_of_lt_of_le (h3 k hk').2 sz⟩, ?_, ?_⟩
  · rintro k (hk' | ⟨hk', hlt⟩)
    · exact ⟨(h4 k hk').1, Nat.lt_of_lt_of_le (h4 k hk').2 sz⟩
    · exact ⟨by have := h0.size; omega, hlt⟩
  · rintro k hk' (hw | ⟨hw, -⟩)
    · exact h5 k hk' hw
    · have := (h3 k hk').2; omega
end
structure WhW (w : World) (s : Nat) (col : Nat → Nat) (cur : Bytes) (n : Nat) (va : Value) (A : List Req) (W : World) : Prop where
  keep : Keep No w W
  cs : col s = 5
  lo : ∀ k, k < w.heap.size → col k = 0
  hi : ∀ k, W.heap.size ≤ k → col k = 0
  st : StreamIn W s (fun k => col k = 1) cur n
  la : Own requestSh 29 W (fun k => col k = 3) va A
section
variable {w : World} {s : Nat} {col : Nat → Nat} {cur : Bytes} {n : Nat} {va : Value} {A : List Req} {W W' : World}
theorem WhW.lt (h : WhW w s col cur n va A W) {k : Nat} (hk : col k ≠ 0) : w.heap.size ≤ k ∧ k < W.heap.size :=
  ⟨Nat.le_of_not_lt fun x => hk (h.lo k x), Nat.lt_of_not_le fun x => hk (h.hi k x)⟩
theorem WhW.ws (h : WhW w s col cur n va A W) : w.heap.size ≤ s ∧ s < W.heap.size := h.lt (by rw [h.cs]; decide)
theorem WhW.more (h : WhW w s col cur n va A W) (hk : Keep No W W') : WhW w s col cur n va A W' :=
  ⟨h.keep.trans hk, h.cs, h.lo, fun k hk' => h.hi k (Nat.le_trans hk.size hk'), h.st.keep hk (fun x => x) (fun _ _ x => x), h.la.agree hk.agreeNo⟩
theorem WhW.start {w : World} : ∃ col, WhW w w.heap.size col [] 0 (.slice none 0 0) [] (w.alloc (.cells #[.slice none 0 0, .int .i64 0] 144)) := by
  obtain ⟨co, hco⟩ : ∃ co : Nat → Nat, ∀ k, co k = if k = w.heap.size then 5 else 0 := ⟨_, fun k => rfl⟩
  have hs5 : co w.heap.size = 5 := by rw [hco, if_pos rfl]
  exact ⟨co, (Keep.refl No w).alloc _, hs5, fun k hk' => by rw [hco, if_neg (by omega)], fun k hk' => by rw [World.size_alloc] at hk'; rw [hco, if_neg (by omega)], ⟨none, 0, 0, blk_new _ _, Own.nil _ _ _ _, by rw [hs5]; decide⟩, Own.nil _ _ _ _⟩
theorem WhW.feedS (h : WhW w s col cur n va A W) {U : Nat → Prop} {p : Value} {x : Bytes} (hp : Rd bytesSh W U [p] x) (hl : cur.length + x.length ≤ 140737488355328) :
    Calls Tryz.prog 31 #[.pointer (some ⟨s, 0, none⟩), p] W fun e W' => e = .returned (.tuple #[]) ∧ RowKit.Hid (∃ col', WhW w s col' (cur ++ x) n va A W') := by
  refine (feed_any W s _ U cur x n h.st p hp hl).mono ?_
  rintro e W' ⟨rfl, hst, hk⟩
  have hM : ∀ k, (col k = 1 ∨ k = s) → col k ≠ 0 := fun k hk => by
    rcases hk with hk | rfl
    · omega
    · rw [h.cs]; decide
  have old : ∀ {c k : Nat}, c ≠ 0 → col k = c → paint col W.heap.size W'.heap.size 1 k = c := fun {c k} hc hk => by rw [paint_old (h.lt (by omega)).2]; exact hk
  have hs5 := old (by decide) h.cs
  have sz := hk.size
  have hkw := h.keep.size
  refine ⟨rfl, paint col W.heap.size W'.heap.size 1, h.keep.then hk fun i hi hm => by have := (h.lt (hM i hm)).1; omega, hs5, fun k hk' => by rw [paint_old (by omega)]; exact h.lo k hk', fun k hk' => by rw [paint_out hk']; exact h.hi k (by omega), ?_, ?_⟩
  · exact hst.mono (fun k hk' => hk'.elim (old (by decide)) (fun f => paint_in f)) (by rw [hs5]; decide)
  · exact (h.la.agree (hk.agree fun i _ hi e => by have := h.cs; rcases e with e | e; omega; subst e; omega)).mono fun k hk' => old (by decide) hk'
theorem WhW.allS (h : WhW w s col cur n va A W) (hl : cur.length ≤ 1048576) (hn : n ≤ 1048576000) {X : List (Req × Int)} {cur' : Bytes} {k' : Nat} (hx : allF 20000 cur = (X, cur', k')) :
    Calls Tryz.prog 33 #[.pointer (some ⟨s, 0, none⟩)] W fun e W' => ∃ a c a2 c2, e = .returned (.tuple #[.slice a X.length c, .slice a2 X.length c2]) ∧
      RowKit.Hid ((∃ col', WhW w s col' cur' (n + k') va A W' ∧ Own requestSh 29 W' (fun k => col' k = 8) (.slice a X.length c) (X.map Prod.fst)) ∧ ∃ S, Rd (.slice (.int .i64)) W' S [.slice a2 X.length c2] (X.map Prod.snd)) := by
  refine (all9_any W s _ cur n h.st (fun k hk => (h.lt (by omega)).2) hl (by omega) (by omega)).mono ?_
  rw [hx]
  rintro e W' ⟨a, c, a2, c2, rfl, h'⟩
  obtain ⟨Sa, Se, A1, hk, hst, hoa, hoe, hA, hSa, hSe, d1, d2, d3⟩ := h'.out
  refine ⟨a, c, a2, c2, rfl, ?_, Se, Own.rd hoe⟩
  have sz := hk.size
  have hkw := h.keep.size
  have ec : (((n + k' : Nat) : Nat) : Int) = (n : Int) + k' := by omega
  classical
  obtain ⟨co, hco⟩ : ∃ co : Nat → Nat, ∀ k, co k = if Sa k then 8 else if A1 k then 1 else col k := ⟨_, fun k => rfl⟩
  have cSa : ∀ k, Sa k → co k = 8 := fun k hk => by rw [hco, if_pos hk]
  have cA : ∀ k, A1 k → co k = 1 := fun k hk => by rw [hco, if_neg (fun e => d1 k e hk), if_pos hk]
  have cN : ∀ k, ¬ Sa k → ¬ A1 k → co k = col k := fun k h1 h3 => by rw [hco, if_neg h1, if_neg h3]
  have old : ∀ {x k : Nat}, x ≠ 0 → x ≠ 1 → col k = x → co k = x := fun {x k} h0 hx hq => by
    have := (h.lt (k := k) (by rw [hq]; exact h0)).2
    rw [cN k (fun e => by have := (hSa k e).1; omega) (fun e => by rcases (hA k e).1 with e | e <;> omega)]
    exact hq
  have hs5 : co s = 5 := old (by decide) (by decide) h.cs
  have ne : ∀ {x k : Nat}, x ≠ 5 → col k = x → k ≠ s := fun hc hq e => hc (hq.symm.trans (by rw [e]; exact h.cs))
  refine ⟨co, ⟨h.keep.then hk fun i hi hm => by have : i = s := hm; have := h.ws; omega, hs5, fun k hk' => ?_, fun k hk' => ?_, ?_, ?_⟩, hoa.mono cSa⟩
  · have := h.lo k hk'
    rw [cN k (fun e => by have := (hSa k e).1; omega) (fun e => by rcases (hA k e).1 with e | e <;> omega)]
    exact this
  · have := h.hi k (by omega)
    rw [cN k (fun e => by have := (hSa k e).2; omega) (fun e => by have := (hA k e).2; omega)]
    exact this
  · rw [ec]
    exact hst.mono cA (by rw [hs5]; decide)
  · exact (h.la.agree (hk.agree fun i _ hi e => ne (by decide) hi e)).mono fun k hk' => old (by decide) (by decide) hk'
theorem WhW.appA (h : WhW w s col cur n va A W) {vx : Value} {X : List Req} (hx : Own requestSh 29 W (fun k => col k = 8) vx X) (hl : A.length + X.length ≤ 1048576) :
    ∃ a c W', (Builtin.append_ #[65, 65] 65 #[va, vx]).run Tryz.prog W = .ok (.slice a (A.length + X.length) c) W' ∧ RowKit.Hid (∃ col', WhW w s col' cur n (.slice a (A.length + X.length) c) (A ++ X) W') := by
  obtain ⟨a, c, W', hrun, ho, hk⟩ := app_reqs h.la (Own.rd hx) (fun k h3 h8 => by omega) hl
  have sz := hk.size
  have hkw := h.keep.size
  have old : ∀ {x k : Nat}, x ≠ 0 → x ≠ 8 → col k = x → paint (turn col 8 3) W.heap.size W'.heap.size 3 k = x := fun {x k} h0 hx hq => by
    have := (h.lt (k := k) (by rw [hq]; exact h0)).2
    rw [paint_old this, turn_no (by rw [hq]; exact hx)]; exact hq
  have hs5 : paint (turn col 8 3) W.heap.size W'.heap.size 3 s = 5 := old (by decide) (by decide) h.cs
  refine ⟨a, c, W', hrun, paint (turn col 8 3) W.heap.size W'.heap.size 3, h.keep.then hk fun i hi hm => by have := (h.lt (k := i) (by rw [hm]; decide)).1; omega, hs5, fun k hk' => ?_, fun k hk' => ?_, ?_, ?_⟩
  · have := h.lo k hk'
    rw [paint_old (by omega), turn_no (by omega)]; exact this
  · have := h.hi k (by omega)
    rw [paint_out hk', turn_no (by omega)]; exact this
  · exact (h.st.keep hk (fun e => by have := h.cs; omega) (fun i hi e => by omega)).mono (fun k hk' => old (by decide) (by decide) hk') (by rw [hs5]; decide)
  · refine ho.mono fun k hk' => ?_
    obtain ⟨hk' | hk' | hk', hlt⟩ := hk'
    · exact old (by decide) (by decide) hk'
    · rw [paint_old (h.lt (by omega)).2, turn_is hk']
    · exact paint_in ⟨by omega, hlt⟩
end
end Go.Proofs.YtpjcebajkfeacaaGreatDoor
