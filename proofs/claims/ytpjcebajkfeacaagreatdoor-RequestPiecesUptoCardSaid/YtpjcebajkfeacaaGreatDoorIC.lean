/-
  RequestPieces: two streams and what was told, side by side in memory, each block with its owner's colour.
  RequestPieces: what is told is laid behind the lists; all that is told.
  RequestPieces: all that is told, of both streams; what is fed.
-/
import Derived.Test.YtpjcebajkfeacaaGreatDoorGA
import Derived.Test.YtpjcebajkfeacaaGreatDoorGC
import Derived.Test.YtpjcebajkfeacaaGreatDoorGK
import Derived.Test.YtpjcebajkfeacaaGreatDoorGU
import Derived.Test.YtpjcebajkfeacaaGreatDoorHB
import Derived.Test.YtpjcebajkfeacaaGreatDoorHC
import Derived.Test.YtpjcebajkfeacaaGreatDoorHD
import Derived.Test.YtpjcebajkfeacaaGreatDoorHT
import Derived.Test.YtpjcebajkfeacaaGreatDoorHU
import Derived.Test.YtpjcebajkfeacaaGreatDoorHV
import Derived.Test.YtpjcebajkfeacaaGreatDoorIA
import Derived.Test.YtpjcebajkfeacaaGreatDoorIB
namespace Go.Proofs.YtpjcebajkfeacaaGreatDoor
set_option linter.unusedVariables false
set_option linter.unusedSimpArgs false
open Go Go.RowKit Go.Deep

theorem StreamIn.mono {W : World} {s : Nat} {A B : Nat → Prop} {l : Bytes} {n : Int} (h : StreamIn W s A l n) (hs : ∀ k, A k → B k) (hb : ¬ B s) : StreamIn W s B l n := by
  obtain ⟨a, m, c, h1, h2, h3⟩ := h
  exact ⟨a, m, c, h1, h2.mono hs, hb⟩

/-- 1: the asked stream's bytes; 2: the other's; 3: the requests told; 4: their codes; 5, 6: the streams; 7: a request just told -/
structure PcW (w : World) (s t : Nat) (col : Nat → Nat) (cur : Bytes) (n : Nat) (T : Bytes) (va ve : Value) (A : List Req) (E : List Int) (W : World) : Prop where
  keep : Keep No w W
  cs : col s = 5
  ct : col t = 6
  lo : ∀ k, k < w.heap.size → col k = 0
  hi : ∀ k, W.heap.size ≤ k → col k = 0
  st : StreamIn W s (fun k => col k = 1) cur n
  tt : StreamIn W t (fun k => col k = 2) T 0
  la : Own requestSh 29 W (fun k => col k = 3) va A
  le : Own (.int .i64) 3 W (fun k => col k = 4) ve E
section
variable {w : World} {s t : Nat} {col : Nat → Nat} {cur : Bytes} {n : Nat} {T : Bytes} {va ve : Value} {A : List Req} {E : List Int} {W W' : World}
theorem PcW.lt (h : PcW w s t col cur n T va ve A E W) {k : Nat} (hk : col k ≠ 0) : w.heap.size ≤ k ∧ k < W.heap.size :=
  ⟨Nat.le_of_not_lt fun x => hk (h.lo k x), Nat.lt_of_not_le fun x => hk (h.hi k x)⟩
theorem PcW.ws (h : PcW w s t col cur n T va ve A E W) : w.heap.size ≤ s ∧ s < W.heap.size := h.lt (by rw [h.cs]; decide)
theorem PcW.wt (h : PcW w s t col cur n T va ve A E W) : w.heap.size ≤ t ∧ t < W.heap.size := h.lt (by rw [h.ct]; decide)
theorem PcW.more (h : PcW w s t col cur n T va ve A E W) (hk : Keep No W W') : PcW w s t col cur n T va ve A E W' :=
  ⟨h.keep.trans hk, h.cs, h.ct, h.lo, fun k hk' => h.hi k (Nat.le_trans hk.size hk'), h.st.keep hk (fun x => x) (fun _ _ x => x), h.tt.keep hk (fun x => x) (fun _ _ x => x), h.la.agree hk.agreeNo, h.le.agree hk.agreeNo⟩
/-- the new blocks get a colour -/
def paint (col : Nat → Nat) (a b c : Nat) : Nat → Nat := fun k => if a ≤ k ∧ k < b then c else col k
theorem paint_old {col : Nat → Nat} {a b c k : Nat} (h : k < a) : paint col a b c k = col k := by unfold paint; rw [if_neg (by omega)]
theorem paint_in {col : Nat → Nat} {a b c k : Nat} (h : a ≤ k ∧ k < b) : paint col a b c k = c := by unfold paint; rw [if_pos h]
theorem paint_out {col : Nat → Nat} {a b c k : Nat} (h : b ≤ k) : paint col a b c k = col k := by unfold paint; rw [if_neg (by omega)]

theorem PcW.feedS (h : PcW w s t col cur n T va ve A E W) {U : Nat → Prop} {p : Value} {x : Bytes} (hp : Rd bytesSh W U [p] x) (hl : cur.length + x.length ≤ 140737488355328) :
    Calls Tryz.prog 31 #[.pointer (some ⟨s, 0, none⟩), p] W fun e W' => e = .returned (.tuple #[]) ∧ RowKit.Hid (∃ col', PcW w s t col' (cur ++ x) n T va ve A E W') := by
  refine (feed_any W s _ U cur x n h.st p hp hl).mono ?_
  rintro e W' ⟨rfl, hst, hk⟩
  have hM : ∀ k, (col k = 1 ∨ k = s) → col k ≠ 0 := fun k hk => by
    rcases hk with hk | rfl
    · omega
    · rw [h.cs]; decide
  have old : ∀ {k : Nat}, col k ≠ 0 → paint col W.heap.size W'.heap.size 1 k = col k := fun hk => paint_old (h.lt hk).2
  have oldS : ∀ {c k : Nat}, c ≠ 0 → col k = c → paint col W.heap.size W'.heap.size 1 k = c := fun hc hk => by rw [old (by omega)]; exact hk
  have hs5 := oldS (by decide) h.cs
  have ht6 := oldS (by decide) h.ct
  have sz := hk.size
  have hkw := h.keep.size
  refine ⟨rfl, paint col W.heap.size W'.heap.size 1, h.keep.then hk fun i hi hm => by have := (h.lt (hM i hm)).1; omega, hs5, ht6, fun k hk' => by rw [paint_old (by omega)]; exact h.lo k hk', fun k hk' => by rw [paint_out hk']; exact h.hi k (by omega), ?_, ?_, ?_, ?_⟩
  · exact hst.mono (fun k hk' => hk'.elim (oldS (by decide)) (fun f => paint_in f)) (by rw [hs5]; decide)
  · exact (h.tt.keep hk (fun e => by have := h.ct; have := h.cs; rcases e with e | e; omega; subst e; omega) (fun i hi e => by have := h.cs; rcases e with e | e; omega; subst e; omega)).mono (fun k hk' => oldS (by decide) hk') (by rw [ht6]; decide)
  · exact (h.la.agree (hk.agree fun i _ hi e => by have := h.cs; rcases e with e | e; omega; subst e; omega)).mono fun k hk' => oldS (by decide) hk'
  · exact (h.le.agree (hk.agree fun i _ hi e => by have := h.cs; rcases e with e | e; omega; subst e; omega)).mono fun k hk' => oldS (by decide) hk'
theorem PcW.feedT (h : PcW w s t col cur n T va ve A E W) {U : Nat → Prop} {p : Value} {x : Bytes} (hp : Rd bytesSh W U [p] x) (hl : T.length + x.length ≤ 140737488355328) :
    Calls Tryz.prog 31 #[.pointer (some ⟨t, 0, none⟩), p] W fun e W' => e = .returned (.tuple #[]) ∧ RowKit.Hid (∃ col', PcW w s t col' cur n (T ++ x) va ve A E W') := by
  refine (feed_any W t _ U T x 0 h.tt p hp hl).mono ?_
  rintro e W' ⟨rfl, hst, hk⟩
  have hM : ∀ k, (col k = 2 ∨ k = t) → col k ≠ 0 := fun k hk => by
    rcases hk with hk | rfl
    · omega
    · rw [h.ct]; decide
  have old : ∀ {k : Nat}, col k ≠ 0 → paint col W.heap.size W'.heap.size 2 k = col k := fun hk => paint_old (h.lt hk).2
  have oldS : ∀ {c k : Nat}, c ≠ 0 → col k = c → paint col W.heap.size W'.heap.size 2 k = c := fun hc hk => by rw [old (by omega)]; exact hk
  have hs5 := oldS (by decide) h.cs
  have ht6 := oldS (by decide) h.ct
  have sz := hk.size
  have hkw := h.keep.size
  refine ⟨rfl, paint col W.heap.size W'.heap.size 2, h.keep.then hk fun i hi hm => by have := (h.lt (hM i hm)).1; omega, hs5, ht6, fun k hk' => by rw [paint_old (by omega)]; exact h.lo k hk', fun k hk' => by rw [paint_out hk']; exact h.hi k (by omega), ?_, ?_, ?_, ?_⟩
  · exact (h.st.keep hk (fun e => by have := h.ct; have := h.cs; rcases e with e | e; omega; subst e; omega) (fun i hi e => by have := h.ct; rcases e with e | e; omega; subst e; omega)).mono (fun k hk' => oldS (by decide) hk') (by rw [hs5]; decide)
  · exact hst.mono (fun k hk' => hk'.elim (oldS (by decide)) (fun f => paint_in f)) (by rw [ht6]; decide)
  · exact (h.la.agree (hk.agree fun i _ hi e => by have := h.ct; rcases e with e | e; omega; subst e; omega)).mono fun k hk' => oldS (by decide) hk'
  · exact (h.le.agree (hk.agree fun i _ hi e => by have := h.ct; rcases e with e | e; omega; subst e; omega)).mono fun k hk' => oldS (by decide) hk'
theorem PcW.nextS (h : PcW w s t col cur n T va ve A E W) (hl : cur.length ≤ 1048576) (hn : n ≤ 1048576000000) {z : Req} {ez : Int} {ok : Bool} {cur' : Bytes} {k' : Nat} (hx : nextB cur = ((z, ez, ok), cur', k')) :
    Calls Tryz.prog 32 #[.pointer (some ⟨s, 0, none⟩)] W fun e W' => ∃ az cz, e = .returned (.tuple #[.agg #[.int .i64 z.client, .int .u64 z.token, .string z.name, .slice az z.args.length cz], .int .i64 ez, .bool ok]) ∧
      RowKit.Hid (∃ col', PcW w s t col' cur' (n + k') T va ve A E W' ∧ Rd requestSh W' (fun k => col' k = 7) [.int .i64 z.client, .int .u64 z.token, .string z.name, .slice az z.args.length cz] z) := by
  refine (stNext_any W s _ cur n h.st (fun k hk => (h.lt (by omega)).2) hl (by omega) (by omega)).mono ?_
  rw [hx]
  rintro e W' ⟨mid, az, cz, rfl, h'⟩
  obtain ⟨hm1, hm2, hr, hst, hk⟩ := h'.out
  have sz := hk.size
  have hkw := h.keep.size
  have old : ∀ {c k : Nat}, c ≠ 0 → col k = c → paint (paint col W.heap.size mid 7) mid W'.heap.size 1 k = c := fun hc hk => by
    have := (h.lt (k := _) (by rw [hk]; exact hc)).2
    rw [paint_old (by omega), paint_old this]; exact hk
  have hs5 := old (by decide) h.cs
  have ht6 := old (by decide) h.ct
  have ne : ∀ {c k : Nat}, c ≠ 5 → col k = c → k ≠ s := fun hc hq e => hc (hq.symm.trans (by rw [e]; exact h.cs))
  have ec : (((n + k' : Nat) : Nat) : Int) = (n : Int) + k' := by omega
  refine ⟨az, cz, rfl, paint (paint col W.heap.size mid 7) mid W'.heap.size 1, ⟨h.keep.then hk fun i hi e => by have : i = s := e; have := h.ws; omega, hs5, ht6, fun k hk' => by rw [paint_old (by omega), paint_old (by omega)]; exact h.lo k hk', fun k hk' => by rw [paint_out hk', paint_out (by omega)]; exact h.hi k (by omega), ?_, ?_, ?_, ?_⟩, ?_⟩
  · rw [ec]
    exact hst.mono (fun k hk' => paint_in hk') (by rw [hs5]; decide)
  · exact (h.tt.keep hk (fun e => ne (by decide) h.ct e) (fun i hi e => ne (by decide) hi e)).mono (fun k hk' => old (by decide) hk') (by rw [ht6]; decide)
  · exact (h.la.agree (hk.agree fun i _ hi e => ne (by decide) hi e)).mono fun k hk' => old (by decide) hk'
  · exact (h.le.agree (hk.agree fun i _ hi e => ne (by decide) hi e)).mono fun k hk' => old (by decide) hk'
  · exact hr.mono requestSh fun k _ hk' => by
      rw [paint_old hk'.2]
      exact paint_in hk'
end
end Go.Proofs.YtpjcebajkfeacaaGreatDoor

namespace Go.Proofs.YtpjcebajkfeacaaGreatDoor
set_option linter.unusedVariables false
set_option linter.unusedSimpArgs false
open Go Go.RowKit Go.Deep

theorem app_rows {s : Sh} {e : TypeId} {w : World} {A T : Nat → Prop} {v : Value} {l : List s.T} (h : Own s e w A v l) {u : Value} {xs : List s.T} (hr : Rd (.slice s) w T [u] xs) (hAT : ∀ k, A k → ¬ T k)
    (ty : TypeId) (i0 : TypeInfo) (z : Value) (bytes : Nat) (hu : Tryz.prog.underlying ty = some (.slice e)) (hi : Tryz.prog.info? e = some i0) (hz0 : i0.zero = some z) (hz1 : i0.size = s.size) (hz2 : i0.bytes = bytes) (hzs : z.cells.size = s.size)
    (hl : l.length + xs.length ≤ 9223372036854775807) (hb : (l.length + xs.length) * bytes ≤ 140737488355328) :
    ∃ a c w', (Builtin.append_ #[ty, ty] ty #[v, u]).run Tryz.prog w = .ok (.slice a (l.length + xs.length) c) w' ∧ Own s e w' (fun i => (A i ∨ T i ∨ i = w.heap.size) ∧ i < w'.heap.size) (.slice a (l.length + xs.length) c) (l ++ xs) ∧ Keep A w w' := by
  obtain ⟨rows0, hrl, hrr, hsrc⟩ := Rd.rows hr
  have hs := hsrc Tryz.prog ty e hu w (Agree.refl _ _)
  obtain ⟨g, rows, U, h1, h2, h3, h4, h5⟩ := h
  have hlen0 : ∀ r ∈ rows0, r.length = s.size := fun r hr' => by
    obtain ⟨j, hj, rfl⟩ := List.getElem_of_mem hr'
    exact (hrr j hj (by omega)).length s
  obtain ⟨a, c, w', g', hr', ho', hg', hk', hsz⟩ := own_append h1 ty ty ty i0 _ bytes hu hi hz0 hz1 hz2 hzs (x := u) (news := rows0) hs hlen0 (by omega) (by rw [h2, hrl]; exact hb)
  rw [hrl, h2] at hr' ho'
  refine ⟨a, c, w', hr', ⟨g', rows ++ rows0, fun k => (U k ∨ T k) ∧ k < w.heap.size, ho', by simp [h2, hrl], fun i hi hi' => ?_, fun b hb => ⟨?_, fun hx => ?_⟩, fun k hk => ⟨?_, Nat.lt_of_lt_of_le hk.2 hk'.size⟩⟩, hk'.mono fun i _ hg => (h4 i hg).1⟩
  · by_cases hlt : i < rows.length
    · rw [List.getElem_append_left hlt, List.getElem_append_left (by omega)]
      refine ((h3 i hlt (by omega)).mono s fun k hk hu => ⟨.inl hu, hk⟩).agree s (hk'.agree fun k hk hu hg => ?_)
      rcases hu.1 with hu | hu
      · exact (h4 k hg).2 hu
      · exact hAT k (h4 k hg).1 hu
    · simp only [List.length_append] at hi hi'
      have e1 : (rows ++ rows0)[i]'(by simp; omega) = rows0[i - rows.length]'(by omega) := List.getElem_append_right (by omega)
      have e2 : (l ++ xs)[i]'(by simp; omega) = xs[i - l.length]'(by omega) := List.getElem_append_right (by omega)
      rw [e1, e2]
      have e3 : xs[i - l.length]'(by omega) = xs[i - rows.length]'(by omega) := by simp only [h2]
      rw [e3]
      refine ((hrr (i - rows.length) (by omega) (by omega)).mono s fun k hk hu => ⟨.inr hu, hk⟩).agree s (hk'.agree fun k hk hu hg => ?_)
      rcases hu.1 with hu | hu
      · exact (h4 k hg).2 hu
      · exact hAT k (h4 k hg).1 hu
  · have hlt := ho'.lt hb
    rcases hg' with rfl | rfl
    · exact ⟨.inl (h4 b hb).1, hlt⟩
    · cases hb; exact ⟨.inr (.inr rfl), hlt⟩
  · rcases hg' with rfl | rfl
    · rcases hx.1 with hu | hu
      · exact (h4 b hb).2 hu
      · exact hAT b (h4 b hb).1 hu
    · cases hb
      exact Nat.lt_irrefl _ hx.2
  · rcases hk.1 with hu | hu
    · exact .inl (h5 k hu)
    · exact .inr (.inl hu)
theorem app_reqs {w : World} {A T : Nat → Prop} {v : Value} {l : List Req} (h : Own requestSh 29 w A v l) {u : Value} {xs : List Req} (hr : Rd (.slice requestSh) w T [u] xs) (hAT : ∀ k, A k → ¬ T k) (hl : l.length + xs.length ≤ 1048576) :
    ∃ a c w', (Builtin.append_ #[65, 65] 65 #[v, u]).run Tryz.prog w = .ok (.slice a (l.length + xs.length) c) w' ∧ Own requestSh 29 w' (fun i => (A i ∨ T i ∨ i = w.heap.size) ∧ i < w'.heap.size) (.slice a (l.length + xs.length) c) (l ++ xs) ∧ Keep A w w' := by
  obtain ⟨i0, hi, hz0, hz1, hz2⟩ := info_parts Tryz.infoRq
  exact app_rows h hr hAT 65 i0 _ 56 Tryz.underlying65 hi hz0 hz1 hz2 rfl (by omega) (by omega)
theorem app_ints {w : World} {A T : Nat → Prop} {v : Value} {l : List Int} (h : Own (.int .i64) 3 w A v l) {u : Value} {xs : List Int} (hr : Rd (.slice (.int .i64)) w T [u] xs) (hAT : ∀ k, A k → ¬ T k) (hl : l.length + xs.length ≤ 1048576) :
    ∃ a c w', (Builtin.append_ #[66, 66] 66 #[v, u]).run Tryz.prog w = .ok (.slice a (l.length + xs.length) c) w' ∧ Own (.int .i64) 3 w' (fun i => (A i ∨ T i ∨ i = w.heap.size) ∧ i < w'.heap.size) (.slice a (l.length + xs.length) c) (l ++ xs) ∧ Keep A w w' := by
  obtain ⟨i0, hi, hz0, hz1, hz2⟩ := info_parts Tryz.infoClI
  exact app_rows h hr hAT 66 i0 _ 8 Tryz.underlying66 hi hz0 hz1 hz2 rfl (by omega) (by omega)

section
variable {w : World} {s t : Nat} {col : Nat → Nat} {cur : Bytes} {n : Nat} {T : Bytes} {va ve : Value} {A : List Req} {E : List Int} {W W' : World}
/-- one colour turned to another, the new blocks to a third -/
def turn (col : Nat → Nat) (x y : Nat) : Nat → Nat := fun k => if col k = x then y else col k
theorem turn_is {col : Nat → Nat} {x y k : Nat} (h : col k = x) : turn col x y k = y := by unfold turn; rw [if_pos h]
theorem turn_no {col : Nat → Nat} {x y k : Nat} (h : col k ≠ x) : turn col x y k = col k := by unfold turn; rw [if_neg h]

/-- the list of requests is longer: the colour c goes over to it -/
theorem PcW.gaveA (h : PcW w s t col cur n T va ve A E W) {c : Nat} (hc : c = 7 ∨ c = 8) {va' : Value} {A' : List Req} (ho : Own requestSh 29 W' (fun k => (col k = 3 ∨ col k = c ∨ k = W.heap.size) ∧ k < W'.heap.size) va' A') (hk : Keep (fun k => col k = 3) W W') :
    PcW w s t (paint (turn col c 3) W.heap.size W'.heap.size 3) cur n T va' ve A' E W' := by
  have sz := hk.size
  have hkw := h.keep.size
  have old : ∀ {x k : Nat}, x ≠ 0 → x ≠ c → col k = x → paint (turn col c 3) W.heap.size W'.heap.size 3 k = x := fun {x k} h0 hx hq => by
    have := (h.lt (k := k) (by rw [hq]; exact h0)).2
    rw [paint_old this, turn_no (by rw [hq]; exact hx)]; exact hq
  have hs5 : paint (turn col c 3) W.heap.size W'.heap.size 3 s = 5 := old (by decide) (by omega) h.cs
  have ht6 : paint (turn col c 3) W.heap.size W'.heap.size 3 t = 6 := old (by decide) (by omega) h.ct
  refine ⟨h.keep.then hk fun i hi hm => by have := (h.lt (k := i) (by rw [hm]; decide)).1; omega, hs5, ht6, fun k hk' => ?_, fun k hk' => ?_, ?_, ?_, ?_, ?_⟩
  · have := h.lo k hk'
    rw [paint_old (by omega), turn_no (by omega)]; exact this
  · have := h.hi k (by omega)
    rw [paint_out hk', turn_no (by omega)]; exact this
  · exact (h.st.keep hk (fun e => by have := h.cs; omega) (fun i hi e => by omega)).mono (fun k hk' => old (by decide) (by omega) hk') (by rw [hs5]; decide)
  · exact (h.tt.keep hk (fun e => by have := h.ct; omega) (fun i hi e => by omega)).mono (fun k hk' => old (by decide) (by omega) hk') (by rw [ht6]; decide)
  · refine ho.mono fun k hk' => ?_
    obtain ⟨hk' | hk' | hk', hlt⟩ := hk'
    · exact old (by decide) (by omega) hk'
    · rw [paint_old (h.lt (by omega)).2, turn_is hk']
    · exact paint_in ⟨by omega, hlt⟩
  · exact (h.le.agree (hk.agree fun i _ hi e => by omega)).mono fun k hk' => old (by decide) (by omega) hk'
/-- the list of codes is longer -/
theorem PcW.gaveE (h : PcW w s t col cur n T va ve A E W) {c : Nat} (hc : c = 7 ∨ c = 9) {ve' : Value} {E' : List Int} (ho : Own (.int .i64) 3 W' (fun k => (col k = 4 ∨ col k = c ∨ k = W.heap.size) ∧ k < W'.heap.size) ve' E') (hk : Keep (fun k => col k = 4) W W') :
    PcW w s t (paint (turn col c 4) W.heap.size W'.heap.size 4) cur n T va ve' A E' W' := by
  have sz := hk.size
  have hkw := h.keep.size
  have old : ∀ {x k : Nat}, x ≠ 0 → x ≠ c → col k = x → paint (turn col c 4) W.heap.size W'.heap.size 4 k = x := fun {x k} h0 hx hq => by
    have := (h.lt (k := k) (by rw [hq]; exact h0)).2
    rw [paint_old this, turn_no (by rw [hq]; exact hx)]; exact hq
  have hs5 : paint (turn col c 4) W.heap.size W'.heap.size 4 s = 5 := old (by decide) (by omega) h.cs
  have ht6 : paint (turn col c 4) W.heap.size W'.heap.size 4 t = 6 := old (by decide) (by omega) h.ct
  refine ⟨h.keep.then hk fun i hi hm => by have := (h.lt (k := i) (by rw [hm]; decide)).1; omega, hs5, ht6, fun k hk' => ?_, fun k hk' => ?_, ?_, ?_, ?_, ?_⟩
  · have := h.lo k hk'
    rw [paint_old (by omega), turn_no (by omega)]; exact this
  · have := h.hi k (by omega)
    rw [paint_out hk', turn_no (by omega)]; exact this
  · exact (h.st.keep hk (fun e => by have := h.cs; omega) (fun i hi e => by omega)).mono (fun k hk' => old (by decide) (by omega) hk') (by rw [hs5]; decide)
  · exact (h.tt.keep hk (fun e => by have := h.ct; omega) (fun i hi e => by omega)).mono (fun k hk' => old (by decide) (by omega) hk') (by rw [ht6]; decide)
  · exact (h.la.agree (hk.agree fun i _ hi e => by omega)).mono fun k hk' => old (by decide) (by omega) hk'
  · refine ho.mono fun k hk' => ?_
    obtain ⟨hk' | hk' | hk', hlt⟩ := hk'
    · exact old (by decide) (by omega) hk'
    · rw [paint_old (h.lt (by omega)).2, turn_is hk']
    · exact paint_in ⟨by omega, hlt⟩

/-- a request more -/
theorem PcW.pushA (h : PcW w s t col cur n T va ve A E W) {b : Nat} {cs : Array Value} {z : Req} (hg : W.heap[b]? = some (.cells cs 29 (0, 0))) (hx : Rd requestSh W (fun k => col k = 7) cs.toList z) (hl : A.length ≤ 1048576) :
    ∃ a c W', (Builtin.append_ #[65, 65] 65 #[va, .slice (some ⟨b, 0, none⟩) 1 1]).run Tryz.prog W = .ok (.slice a (A.length + 1) c) W' ∧ Keep No w W' ∧ RowKit.Hid (∃ col', PcW w s t col' cur n T (.slice a (A.length + 1) c) ve (A ++ [z]) E W') := by
  obtain ⟨a, c, W', hrun, ho, hk⟩ := req_app h.la hg hx (fun k h3 h7 => by omega) hl
  have H := h.gaveA (.inl rfl) ho hk
  exact ⟨a, c, W', hrun, H.keep, _, H⟩
/-- a code more -/
theorem PcW.pushE (h : PcW w s t col cur n T va ve A E W) {b : Nat} {k : Int} (hg : W.heap[b]? = some (.cells #[.int .i64 k] 3 (0, 0))) (hw : (Lit.int .i64 k).wf = true) (hl : E.length ≤ 1048576) :
    ∃ a c W', (Builtin.append_ #[66, 66] 66 #[ve, .slice (some ⟨b, 0, none⟩) 1 1]).run Tryz.prog W = .ok (.slice a (E.length + 1) c) W' ∧ Keep No w W' ∧ RowKit.Hid (∃ col', PcW w s t col' cur n T va (.slice a (E.length + 1) c) A (E ++ [k]) W') := by
  obtain ⟨a, c, W', hrun, ho, hk⟩ := int_app h.le hg hw hl
  have H := h.gaveE (.inl rfl) (ho.mono fun k hk' => ⟨hk'.1.elim .inl fun e => .inr (.inr e), hk'.2⟩) hk
  exact ⟨a, c, W', hrun, H.keep, _, H⟩
end
end Go.Proofs.YtpjcebajkfeacaaGreatDoor

namespace Go.Proofs.YtpjcebajkfeacaaGreatDoor
set_option linter.unusedVariables false
set_option linter.unusedSimpArgs false
open Go Go.RowKit Go.Deep

section
variable {w : World} {s t : Nat} {col : Nat → Nat} {cur : Bytes} {n : Nat} {T : Bytes} {va ve : Value} {A : List Req} {E : List Int} {W W' : World}
/-- all that the asked stream still tells: the requests are coloured 8, their codes 9 -/
theorem PcW.allS (h : PcW w s t col cur n T va ve A E W) (hl : cur.length ≤ 1048576) (hn : n ≤ 1048576000) {X : List (Req × Int)} {cur' : Bytes} {k' : Nat} (hx : allF 20000 cur = (X, cur', k')) :
    Calls Tryz.prog 33 #[.pointer (some ⟨s, 0, none⟩)] W fun e W' => ∃ a c a2 c2, e = .returned (.tuple #[.slice a X.length c, .slice a2 X.length c2]) ∧
      RowKit.Hid (∃ col', PcW w s t col' cur' (n + k') T va ve A E W' ∧ Own requestSh 29 W' (fun k => col' k = 8) (.slice a X.length c) (X.map Prod.fst) ∧ Own (.int .i64) 3 W' (fun k => col' k = 9) (.slice a2 X.length c2) (X.map Prod.snd)) := by
  refine (all9_any W s _ cur n h.st (fun k hk => (h.lt (by omega)).2) hl (by omega) (by omega)).mono ?_
  rw [hx]
  rintro e W' ⟨a, c, a2, c2, rfl, h'⟩
  obtain ⟨Sa, Se, A1, hk, hst, hoa, hoe, hA, hSa, hSe, d1, d2, d3⟩ := h'.out
  refine ⟨a, c, a2, c2, rfl, ?_⟩
  have sz := hk.size
  have hkw := h.keep.size
  have ec : (((n + k' : Nat) : Nat) : Int) = (n : Int) + k' := by omega
  classical
  obtain ⟨co, hco⟩ : ∃ co : Nat → Nat, ∀ k, co k = if Sa k then 8 else if Se k then 9 else if A1 k then 1 else col k := ⟨_, fun k => rfl⟩
  have cSa : ∀ k, Sa k → co k = 8 := fun k hk => by rw [hco, if_pos hk]
  have cSe : ∀ k, Se k → co k = 9 := fun k hk => by rw [hco, if_neg (fun e => d3 k e hk), if_pos hk]
  have cA : ∀ k, A1 k → co k = 1 := fun k hk => by rw [hco, if_neg (fun e => d1 k e hk), if_neg (fun e => d2 k e hk), if_pos hk]
  have cN : ∀ k, ¬ Sa k → ¬ Se k → ¬ A1 k → co k = col k := fun k h1 h2 h3 => by rw [hco, if_neg h1, if_neg h2, if_neg h3]
  have old : ∀ {x k : Nat}, x ≠ 0 → x ≠ 1 → col k = x → co k = x := fun {x k} h0 hx hq => by
    have := (h.lt (k := k) (by rw [hq]; exact h0)).2
    rw [cN k (fun e => by have := (hSa k e).1; omega) (fun e => by have := (hSe k e).1; omega) (fun e => by rcases (hA k e).1 with e | e <;> omega)]
    exact hq
  have hs5 : co s = 5 := old (by decide) (by decide) h.cs
  have ht6 : co t = 6 := old (by decide) (by decide) h.ct
  have ne : ∀ {x k : Nat}, x ≠ 5 → col k = x → k ≠ s := fun hc hq e => hc (hq.symm.trans (by rw [e]; exact h.cs))
  refine ⟨co, ⟨h.keep.then hk fun i hi hm => by have : i = s := hm; have := h.ws; omega, hs5, ht6, fun k hk' => ?_, fun k hk' => ?_, ?_, ?_, ?_, ?_⟩, hoa.mono cSa, hoe.mono cSe⟩
  · have := h.lo k hk'
    rw [cN k (fun e => by have := (hSa k e).1; omega) (fun e => by have := (hSe k e).1; omega) (fun e => by rcases (hA k e).1 with e | e <;> omega)]
    exact this
  · have := h.hi k (by omega)
    rw [cN k (fun e => by have := (hSa k e).2; omega) (fun e => by have := (hSe k e).2; omega) (fun e => by have := (hA k e).2; omega)]
    exact this
  · rw [ec]
    exact hst.mono cA (by rw [hs5]; decide)
  · exact (h.tt.keep hk (fun e => ne (by decide) h.ct e) (fun i hi e => ne (by decide) hi e)).mono (fun k hk' => old (by decide) (by decide) hk') (by rw [ht6]; decide)
  · exact (h.la.agree (hk.agree fun i _ hi e => ne (by decide) hi e)).mono fun k hk' => old (by decide) (by decide) hk'
  · exact (h.le.agree (hk.agree fun i _ hi e => ne (by decide) hi e)).mono fun k hk' => old (by decide) (by decide) hk'
/-- they are laid behind the others -/
theorem PcW.appA (h : PcW w s t col cur n T va ve A E W) {vx vy : Value} {X : List Req} {Y : List Int} (hx : Own requestSh 29 W (fun k => col k = 8) vx X) (hy : Own (.int .i64) 3 W (fun k => col k = 9) vy Y) (hl : A.length + X.length ≤ 1048576) :
    ∃ a c W', (Builtin.append_ #[65, 65] 65 #[va, vx]).run Tryz.prog W = .ok (.slice a (A.length + X.length) c) W' ∧ Keep No w W' ∧ RowKit.Hid (∃ col', PcW w s t col' cur n T (.slice a (A.length + X.length) c) ve (A ++ X) E W' ∧ Own (.int .i64) 3 W' (fun k => col' k = 9) vy Y) := by
  obtain ⟨a, c, W', hrun, ho, hk⟩ := app_reqs h.la (Own.rd hx) (fun k h3 h8 => by omega) hl
  have H := h.gaveA (.inr rfl) ho hk
  refine ⟨a, c, W', hrun, H.keep, _, H, (hy.agree (hk.agree fun i _ hi e => by omega)).mono fun k hk' => ?_⟩
  rw [paint_old (h.lt (by omega)).2, turn_no (by omega)]
  exact hk'
theorem PcW.appE (h : PcW w s t col cur n T va ve A E W) {vy : Value} {Y : List Int} (hy : Own (.int .i64) 3 W (fun k => col k = 9) vy Y) (hl : E.length + Y.length ≤ 1048576) :
    ∃ a c W', (Builtin.append_ #[66, 66] 66 #[ve, vy]).run Tryz.prog W = .ok (.slice a (E.length + Y.length) c) W' ∧ Keep No w W' ∧ RowKit.Hid (∃ col', PcW w s t col' cur n T va (.slice a (E.length + Y.length) c) A (E ++ Y) W') := by
  obtain ⟨a, c, W', hrun, ho, hk⟩ := app_ints h.le (Own.rd hy) (fun k h3 h8 => by omega) hl
  have H := h.gaveE (.inr rfl) ho hk
  exact ⟨a, c, W', hrun, H.keep, _, H⟩

/-- both told the same -/
structure PcF (w : World) (s t : Nat) (cur : Bytes) (n : Int) (va ve vb vg : Value) (A : List Req) (E : List Int) (W : World) : Prop where
  keep : Keep No w W
  st : ∃ S, StreamIn W s S cur n
  tt : ∃ S, StreamIn W t S cur n
  ra : ∃ S, Rd (.slice requestSh) W S [va] A
  re : ∃ S, Rd (.slice (.int .i64)) W S [ve] E
  rb : ∃ S, Rd (.slice requestSh) W S [vb] A
  rg : ∃ S, Rd (.slice (.int .i64)) W S [vg] E
theorem PcF.more {cur : Bytes} {n : Int} {va ve vb vg : Value} {A : List Req} {E : List Int} (h : PcF w s t cur n va ve vb vg A E W) (hk : Keep No W W') : PcF w s t cur n va ve vb vg A E W' :=
  ⟨h.keep.trans hk, h.st.imp fun _ x => x.keep hk (fun x => x) (fun _ _ x => x), h.tt.imp fun _ x => x.keep hk (fun x => x) (fun _ _ x => x), h.ra.imp fun _ x => x.agree _ hk.agreeNo, h.re.imp fun _ x => x.agree _ hk.agreeNo, h.rb.imp fun _ x => x.agree _ hk.agreeNo, h.rg.imp fun _ x => x.agree _ hk.agreeNo⟩
theorem PcW.allT (h : PcW w s t col cur n T va ve A E W) (hl : T.length ≤ 1048576) {X : List (Req × Int)} (hx : allF 20000 T = (X, cur, n)) (hA : A = X.map Prod.fst) (hE : E = X.map Prod.snd) :
    Calls Tryz.prog 33 #[.pointer (some ⟨t, 0, none⟩)] W fun e W' => ∃ b c g c2, e = .returned (.tuple #[.slice b X.length c, .slice g X.length c2]) ∧ RowKit.Hid (PcF w s t cur n va ve (.slice b X.length c) (.slice g X.length c2) A E W') := by
  refine (all9_any W t _ T 0 h.tt (fun k hk => (h.lt (by omega)).2) hl (by omega) (by omega)).mono ?_
  rw [hx]
  rintro e W' ⟨a, c, a2, c2, rfl, h'⟩
  obtain ⟨Sb, Sg, A1, hk, hst, hob, hog, hA1, hSb, hSg, d1, d2, d3⟩ := h'.out
  have ne : ∀ {x k : Nat}, x ≠ 6 → col k = x → k ≠ t := fun hc hq e => hc (hq.symm.trans (by rw [e]; exact h.ct))
  refine ⟨a, c, a2, c2, rfl, h.keep.then hk fun i hi hm => by have : i = t := hm; have := h.wt; omega, ⟨_, h.st.keep hk (fun e => ne (by decide) h.cs e) (fun i hi e => ne (by decide) hi e)⟩, ⟨A1, by simpa using hst⟩,
    ⟨_, Own.rd (h.la.agree (hk.agree fun i _ hi e => ne (by decide) hi e))⟩, ⟨_, Own.rd (h.le.agree (hk.agree fun i _ hi e => ne (by decide) hi e))⟩, ⟨Sb, ?_⟩, ⟨Sg, ?_⟩⟩
  · rw [hA]; exact Own.rd hob
  · rw [hE]; exact Own.rd hog
end
/-- two new streams -/
theorem PcW.start {w W : World} (hk : Keep No w W) {s t : Nat} (h0 : w.heap.size ≤ s) (hst : s ≠ t) (h0' : w.heap.size ≤ t) (hs : W.heap[s]? = some (.cells #[.slice none 0 0, .int .i64 0] 144 (0, 0))) (ht : W.heap[t]? = some (.cells #[.slice none 0 0, .int .i64 0] 144 (0, 0))) :
    ∃ col, PcW w s t col [] 0 [] (.slice none 0 0) (.slice none 0 0) [] [] W := by
  have ls := blk_lt hs
  have lt := blk_lt ht
  obtain ⟨co, hco⟩ : ∃ co : Nat → Nat, ∀ k, co k = if k = s then 5 else if k = t then 6 else 0 := ⟨_, fun k => rfl⟩
  have hs5 : co s = 5 := by rw [hco, if_pos rfl]
  have ht6 : co t = 6 := by rw [hco, if_neg (fun e => hst e.symm), if_pos rfl]
  exact ⟨co, hk, hs5, ht6, fun k hk' => by rw [hco, if_neg (by omega), if_neg (by omega)], fun k hk' => by rw [hco, if_neg (by omega), if_neg (by omega)], ⟨none, 0, 0, hs, Own.nil _ _ _ _, by rw [hs5]; decide⟩, ⟨none, 0, 0, ht, Own.nil _ _ _ _, by rw [ht6]; decide⟩, Own.nil _ _ _ _, Own.nil _ _ _ _⟩

/-- the bytes of the first pieces -/
def fedB (l : List Pc) (k : Nat) : Bytes := (l.take k).flatMap fun p => p.b
theorem fedB_zero (l : List Pc) : fedB l 0 = [] := by simp [fedB]
theorem fedB_succ (l : List Pc) (k : Nat) (h : k < l.length) : fedB l (k + 1) = fedB l k ++ l[k].b := by
  unfold fedB
  rw [List.take_succ_eq_append_getElem h, List.flatMap_append]
  simp
theorem fedB_len (l : List Pc) (k : Nat) : (fedB l k).length = fedN l k := by
  unfold fedB fedN
  rw [List.length_flatMap]
/-- what was asked so far, with its counts -/
structure PcQ (T : Bytes) (acc : List (Req × Int)) (cur : Bytes) (n : Nat) : Prop where
  q : Asked T acc cur n
  la : acc.length + cur.length ≤ T.length
  ln : n + cur.length ≤ T.length
theorem PcQ.nil : PcQ [] [] [] 0 := ⟨Asked.nil, by simp, by simp⟩
theorem PcQ.feed {T : Bytes} {acc : List (Req × Int)} {cur : Bytes} {n : Nat} (h : PcQ T acc cur n) (x : Bytes) : PcQ (T ++ x) acc (cur ++ x) n :=
  ⟨h.q.feed x, by have := h.la; simp only [List.length_append]; omega, by have := h.ln; simp only [List.length_append]; omega⟩
theorem PcQ.ok {T : Bytes} {acc : List (Req × Int)} {cur : Bytes} {n : Nat} (h : PcQ T acc cur n) {z : Req} {ez : Int} {cur' : Bytes} {k' : Nat} (hx : nextB cur = ((z, ez, true), cur', k')) : PcQ T (acc ++ [(z, ez)]) cur' (n + k') := by
  have hq := h.q.ok (by rw [hx])
  have ht := next_took (l := cur) (by rw [hx])
  have hn := nextB_len cur
  rw [hx] at hq ht hn
  simp only at ht hn
  exact ⟨hq, by have := h.la; simp only [List.length_append, List.length_singleton]; omega, by have := h.ln; omega⟩
theorem PcQ.no {T : Bytes} {acc : List (Req × Int)} {cur : Bytes} {n : Nat} (h : PcQ T acc cur n) {z : Req} {ez : Int} {cur' : Bytes} {k' : Nat} (hx : nextB cur = ((z, ez, false), cur', k')) : PcQ T acc cur' (n + k') := by
  have hq := h.q.no (by rw [hx])
  have hn := nextB_len cur
  rw [hx] at hq hn
  simp only at hn
  exact ⟨hq, by have := h.la; omega, by have := h.ln; omega⟩
/-- all of it, at the end -/
theorem PcQ.all {T : Bytes} {acc : List (Req × Int)} {cur : Bytes} {n : Nat} (h : PcQ T acc cur n) (hT : T.length ≤ 20000) {X : List (Req × Int)} {cur' : Bytes} {k' : Nat} (hx : allF 20000 cur = (X, cur', k')) : allF 20000 T = (acc ++ X, cur', n + k') := by
  have := h.q.all
  rw [tell_all (by have := h.ln; omega)] at hx
  rw [tell_all hT, this, hx]
theorem allF_len : ∀ (f : Nat) (l : Bytes), (allF f l).1.length ≤ f
  | 0, l => by simp [allF]
  | f + 1, l => by
    have := allF_len f (nextB l).2.1
    rw [allF_succ]
    split
    · simp only [List.length_cons]; omega
    · simp

/-- a slice of requests, element by element -/
theorem reqs_get {w : World} {S : Nat → Prop} {a : Option Addr} {n c : Nat} {l : List Req} (h : Rd (.slice requestSh) w S [.slice a n c] l) (i : Nat) (hi : i < l.length) :
    ∃ b off a1 c1, a = some ⟨b, off, none⟩ ∧ w.cell? ⟨b, off + i * 4, none⟩ = some (.int .i64 l[i].client) ∧ w.cell? ⟨b, off + i * 4 + 1, none⟩ = some (.int .u64 l[i].token) ∧ w.cell? ⟨b, off + i * 4 + 2, none⟩ = some (.string l[i].name) ∧ w.cell? ⟨b, off + i * 4 + 3, none⟩ = some (.slice a1 l[i].args.length c1) ∧
      Rd requestSh w S [.int .i64 l[i].client, .int .u64 l[i].token, .string l[i].name, .slice a1 l[i].args.length c1] l[i] := by
  obtain ⟨b, off, row, ha, -, hb, hS, -, hrow, hx⟩ := h.elem' i hi
  obtain ⟨a1, c1, rfl, -⟩ := req_cells hx
  have p0 := (hrow 0 (by simp)).1
  have p1 := (hrow 1 (by simp)).1
  have p2 := (hrow 2 (by simp)).1
  have p3 := (hrow 3 (by simp)).1
  simp [Sh.size] at p0 p1 p2 p3
  exact ⟨b, off, a1, c1, ha, p0, p1, p2, p3, hx⟩
end Go.Proofs.YtpjcebajkfeacaaGreatDoor
