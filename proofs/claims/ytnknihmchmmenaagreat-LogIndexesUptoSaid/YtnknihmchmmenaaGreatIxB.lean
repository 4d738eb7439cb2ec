/-
  The program's index in memory: New, Len, what stands under a key.
-/
import Derived.Test.YtnknihmchmmenaaGreatIxA
import Derived.Test.YtnknihmchmmenaaGreatGI
import Derived.Test.YtnknihmchmmenaaGreatGQ
namespace Go.Proofs.YtnknihmchmmenaaGreat
open Go Go.RowKit Go.Deep
set_option linter.unusedVariables false
set_option linter.unusedSimpArgs false

theorem keyInt : Maps.Keyed Tryz.prog 3 := Maps.int_keyed Tryz.underlying3
theorem zeroInts (w : World) : (zeroValue 93).run Tryz.prog w = .ok (.slice none 0 0) w := by kernel_rfl
theorem Tryz.infoI64 : (Tryz.prog.info? 2).map (fun i => (i.zero, i.size, i.bytes)) = some (some (.int .i64 0), 1, 8) := by kernel_rfl

/-- the key's type of the j-th map -/
def kt (j : Nat) : TypeId := if j = 1 then 3 else 9
theorem kt_key (j : Nat) : Maps.Keyed Tryz.prog (kt j) := by
  unfold kt
  split
  · exact keyInt
  · exact keyLaw

/-- an index in block B; lab says which of its parts a block belongs to (0: the epochs, 1 to 4: the maps of slices, 5: itself, 6: who asked) -/
structure IxW (w : World) (B : Nat) (lab : Nat → Nat) (ve : Value) (m : Nat → Nat) (le : List Int) (f : Nat → Lit → List Int) (n : Nat) (D : DataW Unit) : Prop where
  blk : w.heap[B]? = some (.cells #[ve, .map (some (m 1)), .map (some (m 2)), .map (some (m 3)), .map (some (m 4)), .map (some (m 5))] 158 (0, 0))
  eps : Own (.int .i64) 2 w (fun i => lab i = 0) ve le
  c : ∀ j, 1 ≤ j → j ≤ 4 → SlMap Tryz.prog 2 w (kt j) (fun i => lab i = j) (m j) n (f j)
  c5 : w.ownsMap Tryz.prog 160 (plainElem Tryz.prog 2) (m 5) n D
  lB : lab B = 5
  l5 : lab (m 5) = 6
  lt : ∀ i, lab i < 7 → i < w.heap.size

theorem IxW.more {w w' : World} {B : Nat} {lab : Nat → Nat} {ve : Value} {m : Nat → Nat} {le : List Int} {f : Nat → Lit → List Int} {n : Nat} {D : DataW Unit} (h : IxW w B lab ve m le f n D) {M : Nat → Prop} (hk : Keep M w w') (hM : ∀ i, lab i < 7 → ¬ M i) : IxW w' B lab ve m le f n D :=
  ⟨hk.blk h.blk (hM _ (by rw [h.lB]; omega)), h.eps.agree (hk.agree fun i _ hi => hM i (by rw [hi]; omega)), fun j h1 h4 => (h.c j h1 h4).keep hk fun i hi => hM i (by rw [hi]; omega), ownsMap_keep h.c5 hk (hM _ (by rw [h.l5]; omega)), h.lB, h.l5, fun i hi => Nat.lt_of_lt_of_le (h.lt i hi) hk.size⟩

/-- new blocks go to the j-th part -/
def relab (lab : Nat → Nat) (lo hi j : Nat) (i : Nat) : Nat := if lab i < 7 then lab i else if lo ≤ i ∧ i < hi then j else 7
theorem relab_old {lab : Nat → Nat} {lo hi j i k : Nat} (h : lab i = k) (hk : k < 7) : relab lab lo hi j i = k := by unfold relab; rw [if_pos (by omega)]; exact h
theorem relab_new {lab : Nat → Nat} {lo hi j i : Nat} (h : ∀ i, lab i < 7 → i < lo) (h1 : lo ≤ i) (h2 : i < hi) : relab lab lo hi j i = j := by
  unfold relab
  rw [if_neg (fun hh => by have := h i hh; omega), if_pos ⟨h1, h2⟩]
theorem relab_lt {lab : Nat → Nat} {lo hi j i : Nat} (h : relab lab lo hi j i < 7) : lab i < 7 ∨ (lo ≤ i ∧ i < hi) := by
  unfold relab at h
  by_cases h1 : lab i < 7
  · exact .inl h1
  · rw [if_neg h1] at h
    by_cases h2 : lo ≤ i ∧ i < hi
    · exact .inr h2
    · rw [if_neg h2] at h; omega

/-- one of the maps has turned -/
theorem IxW.step {w w' : World} {B : Nat} {lab : Nat → Nat} {ve : Value} {m : Nat → Nat} {le : List Int} {f : Nat → Lit → List Int} {n : Nat} {D : DataW Unit} (h : IxW w B lab ve m le f n D) (j : Nat) (h1 : 1 ≤ j) (h4 : j ≤ 4) {g : Lit → List Int}
    (hk : Keep (fun i => lab i = j) w w') (hs : SlMap Tryz.prog 2 w' (kt j) (fun i => lab i = j ∨ (w.heap.size ≤ i ∧ i < w'.heap.size)) (m j) (n + 1) g) : IxW w' B (relab lab w.heap.size w'.heap.size j) ve m le (fun x => if x = j then g else f x) (n + 1) D := by
  have hM : ∀ i k, lab i = k → k ≠ j → ¬ lab i = j := fun i k hi hkj => by omega
  refine ⟨hk.blk h.blk (by rw [h.lB]; omega), ?_, fun x hx1 hx4 => ?_, (ownsMap_keep h.c5 hk (by rw [h.l5]; omega)).mono (Nat.le_succ _), relab_old h.lB (by omega), relab_old h.l5 (by omega), fun i hi => ?_⟩
  · exact Own.mono (h.eps.agree (hk.agree fun i _ hi => by omega)) fun i hi => relab_old hi (by omega)
  · by_cases e : x = j
    · subst e
      simp only [if_true]
      refine hs.mono (fun i hi => ?_) (Nat.le_refl _)
      rcases hi with hi | hi
      · exact relab_old hi (by omega)
      · exact relab_new h.lt hi.1 hi.2
    · simp only [e, if_false]
      exact ((h.c x hx1 hx4).keep hk fun i hi => by omega).mono (fun i hi => relab_old hi (by omega)) (Nat.le_succ _)
  · have := hk.size
    rcases relab_lt hi with hh | hh
    · have := h.lt i hh; omega
    · exact hh.2
/-- the list of epochs has turned -/
theorem IxW.step0 {w w' : World} {B : Nat} {lab : Nat → Nat} {ve ve' : Value} {m : Nat → Nat} {le le' : List Int} {f : Nat → Lit → List Int} {n : Nat} {D : DataW Unit} (h : IxW w B lab ve m le f n D)
    (hk : Keep (fun i => lab i = 0 ∨ i = B) w w') (hb : w'.heap[B]? = some (.cells #[ve', .map (some (m 1)), .map (some (m 2)), .map (some (m 3)), .map (some (m 4)), .map (some (m 5))] 158 (0, 0)))
    (ho : Own (.int .i64) 2 w' (fun i => lab i = 0 ∨ (w.heap.size ≤ i ∧ i < w'.heap.size)) ve' le') : IxW w' B (relab lab w.heap.size w'.heap.size 0) ve' m le' f n D := by
  have hM : ∀ i k, lab i = k → 1 ≤ k → k ≠ 5 → ¬ (lab i = 0 ∨ i = B) := fun i k hi hk hk5 hh => by
    rcases hh with hh | hh
    · omega
    · subst hh; rw [h.lB] at hi; omega
  refine ⟨hb, ?_, fun x hx1 hx4 => ?_, ownsMap_keep h.c5 hk (hM _ _ h.l5 (by omega) (by omega)), relab_old h.lB (by omega), relab_old h.l5 (by omega), fun i hi => ?_⟩
  · refine Own.mono ho fun i hi => ?_
    rcases hi with hi | hi
    · exact relab_old hi (by omega)
    · exact relab_new h.lt hi.1 hi.2
  · exact ((h.c x hx1 hx4).keep hk fun i hi => hM i x hi hx1 (by omega)).mono (fun i hi => relab_old hi (by omega)) (Nat.le_refl _)
  · have := hk.size
    rcases relab_lt hi with hh | hh
    · have := h.lt i hh; omega
    · exact hh.2

set_option maxRecDepth 10000 in
set_option maxHeartbeats 1000000 in
theorem ixNew_any (w : World) : Calls Tryz.prog 44 #[] w fun e w' => ∃ B, e = .returned (.pointer (some ⟨B, 0, none⟩)) ∧ ∃ lab ve m, RowKit.Hid (IxW w' B lab ve m [] (fun _ _ => []) 0 (.map []) ∧ Keep No w w' ∧ ∀ i, lab i < 7 → w.heap.size ≤ i) := by
  have hmm := @run_makeMap Tryz.prog
  go_enter Tryz.func44, Tryz.ntmps44
  go_wp2
  go_ret
  obtain ⟨s, hs⟩ : ∃ s, w.heap.size = s := ⟨_, rfl⟩
  rw [hs]
  have k1 := (Keep.refl No w).alloc (.map #[] 0)
  have m1 := SlMap.new (P := Tryz.prog) (te := 2) (k := kt 1) w
  have z1 : (w.alloc (.map #[] 0)).heap.size = s + 1 := by simp [hs]
  rw [hs] at m1
  generalize (w.alloc (.map #[] 0)) = w1 at *
  have k2 := (Keep.refl No w1).alloc (.map #[] 0)
  have m2 := SlMap.new (P := Tryz.prog) (te := 2) (k := kt 2) w1
  have z2 : (w1.alloc (.map #[] 0)).heap.size = s + 2 := by simp [z1]
  rw [z1] at m2
  generalize (w1.alloc (.map #[] 0)) = w2 at *
  have k3 := (Keep.refl No w2).alloc (.map #[] 0)
  have m3 := SlMap.new (P := Tryz.prog) (te := 2) (k := kt 3) w2
  have z3 : (w2.alloc (.map #[] 0)).heap.size = s + 3 := by simp [z2]
  rw [z2] at m3
  generalize (w2.alloc (.map #[] 0)) = w3 at *
  have k4 := (Keep.refl No w3).alloc (.map #[] 0)
  have m4 := SlMap.new (P := Tryz.prog) (te := 2) (k := kt 4) w3
  have z4 : (w3.alloc (.map #[] 0)).heap.size = s + 4 := by simp [z3]
  rw [z3] at m4
  generalize (w3.alloc (.map #[] 0)) = w4 at *
  have k5 := (Keep.refl No w4).alloc (.map #[] 0)
  have m5 := World.ownsMap_made (H := Unit) w4 Tryz.prog 160 (plainElem Tryz.prog 2)
  have z5 : (w4.alloc (.map #[] 0)).heap.size = s + 5 := by simp [z4]
  rw [z4] at m5
  generalize (w4.alloc (.map #[] 0)) = w5 at *
  have k6 := (Keep.refl No w5).alloc (.cells #[.slice none 0 0, .map (some s), .map (some (s + 1)), .map (some (s + 1 + 1)), .map (some (s + 1 + 1 + 1)), .map (some (s + 1 + 1 + 1 + 1))] 158)
  have m6 := blk_new w5 (.cells #[.slice none 0 0, .map (some s), .map (some (s + 1)), .map (some (s + 1 + 1)), .map (some (s + 1 + 1 + 1)), .map (some (s + 1 + 1 + 1 + 1))] 158)
  have z6 : (w5.alloc (.cells #[.slice none 0 0, .map (some s), .map (some (s + 1)), .map (some (s + 1 + 1)), .map (some (s + 1 + 1 + 1)), .map (some (s + 1 + 1 + 1 + 1))] 158)).heap.size = s + 6 := by simp [z5]
  rw [z5] at m6
  generalize (w5.alloc (.cells #[.slice none 0 0, .map (some s), .map (some (s + 1)), .map (some (s + 1 + 1)), .map (some (s + 1 + 1 + 1)), .map (some (s + 1 + 1 + 1 + 1))] 158)) = w6 at *
  refine ⟨s + 5, by simp, fun i => if s ≤ i ∧ i ≤ s + 3 then i - s + 1 else if i = s + 4 then 6 else if i = s + 5 then 5 else 7, _, fun j => s + (j - 1), ⟨⟨m6, Own.nil _ _ _ _, fun j h1 h4 => ?_, ownsMap_keep m5 k6 (fun x => x), ?_, ?_, fun i hi => ?_⟩, ((((k1.trans k2).trans k3).trans k4).trans k5).trans k6, fun i hi => ?_⟩⟩
  · have hone : ∀ i, 1 ≤ i → i ≤ 4 → ∀ k, One (s + (i - 1)) k → (if s ≤ k ∧ k ≤ s + 3 then k - s + 1 else if k = s + 4 then 6 else if k = s + 5 then 5 else 7) = i := fun i h1 h4 k hk => by
      have : k = s + (i - 1) := hk
      rw [if_pos (by omega)]
      omega
    rcases (show j = 1 ∨ j = 2 ∨ j = 3 ∨ j = 4 by omega) with rfl | rfl | rfl | rfl
    · exact (m1.keep ((((k2.trans k3).trans k4).trans k5).trans k6) fun _ _ x => x).mono (hone 1 h1 h4) (Nat.le_refl _)
    · exact (m2.keep (((k3.trans k4).trans k5).trans k6) fun _ _ x => x).mono (hone 2 h1 h4) (Nat.le_refl _)
    · exact (m3.keep ((k4.trans k5).trans k6) fun _ _ x => x).mono (hone 3 h1 h4) (Nat.le_refl _)
    · exact (m4.keep (k5.trans k6) fun _ _ x => x).mono (hone 4 h1 h4) (Nat.le_refl _)
  · show (if s ≤ s + 5 ∧ s + 5 ≤ s + 3 then s + 5 - s + 1 else if s + 5 = s + 4 then 6 else if s + 5 = s + 5 then 5 else 7) = 5
    rw [if_neg (by omega), if_neg (by omega), if_pos (by omega)]
  · show (if s ≤ s + (5 - 1) ∧ s + (5 - 1) ≤ s + 3 then s + (5 - 1) - s + 1 else if s + (5 - 1) = s + 4 then 6 else if s + (5 - 1) = s + 5 then 5 else 7) = 6
    rw [if_neg (by omega), if_pos (by omega)]
  · rw [z6]
    change (if s ≤ i ∧ i ≤ s + 3 then i - s + 1 else if i = s + 4 then 6 else if i = s + 5 then 5 else 7) < 7 at hi
    split at hi
    · omega
    · split at hi
      · omega
      · split at hi
        · omega
        · omega
  · change (if s ≤ i ∧ i ≤ s + 3 then i - s + 1 else if i = s + 4 then 6 else if i = s + 5 then 5 else 7) < 7 at hi
    split at hi
    · omega
    · split at hi
      · omega
      · split at hi
        · omega
        · omega

theorem ixLen_any {w : World} {B : Nat} {lab : Nat → Nat} {ve : Value} {m : Nat → Nat} {le : List Int} {f : Nat → Lit → List Int} {n : Nat} {D : DataW Unit} (h : IxW w B lab ve m le f n D) :
    Calls Tryz.prog 58 #[.pointer (some ⟨B, 0, none⟩)] w fun e w' => e = .returned (.int .i64 le.length) ∧ w = w' := by
  obtain ⟨a, c, rfl, -⟩ := h.eps.form
  have c0 := blk_cell h.blk
  clear h
  generalize le.length = k at *
  go_enter Tryz.func58, Tryz.ntmps58
  go_wp2
  go_ret
  exact ⟨rfl, rfl⟩

set_option maxHeartbeats 400000 in
theorem clone_i64 (w : World) (S : Nat → Prop) (v : Value) (l : List Int) (h : Rd (.slice (.int .i64)) w S [v] l) (hl : l.length ≤ 1048576) :
    Calls Tryz.prog 99 #[v] w (Cloned (.int .i64) 2 w l) := by
  obtain ⟨i0, hi, hz0, hz1, hz2⟩ := info_parts Tryz.infoI64
  obtain ⟨a, c, hv, hc, hn⟩ := Rd.sliceForm h
  obtain rfl : v = .slice a l.length c := by simpa using hv
  clear hv
  have hq := fun (a : Option Addr) (n c : Nat) (w : World) => Lib.run_eql_slice_nil (P := Tryz.prog) w 93 2 a n c 0 0 Tryz.underlying93
  cases a with
  | none =>
    obtain ⟨rfl, rfl⟩ := hn rfl
    go_enter Tryz.func99, Tryz.ntmps99
    go_wp2
    go_ret
    exact ⟨none, 0, rfl, Own.nil _ _ _ _, Keep.refl _ _⟩
  | some a =>
    obtain ⟨a', c', w', hrun, ho, hk⟩ := clone_app h rfl 93 2 93 i0 _ 8 Tryz.underlying93 hi hz0 hz1 hz2 rfl hl (by decide)
    clear h hn
    go_enter Tryz.func99, Tryz.ntmps99
    go_wp2_with (at_builtin; refine wpList_app rfl (.tmp 5) (.tmp 6) 93 93 rfl rfl rfl hrun ?_)
    go_ret
    exact ⟨_, _, rfl, ho, hk⟩

theorem ixClient_any {w : World} {B : Nat} {lab : Nat → Nat} {ve : Value} {m : Nat → Nat} {le : List Int} {f : Nat → Lit → List Int} {n : Nat} {D : DataW Unit} (h : IxW w B lab ve m le f n D) (c : Int) (wc : (Lit.int .i64 c).wf = true) (hl : (f 1 (.int .i64 c)).length ≤ 1048576) :
    Calls Tryz.prog 49 #[.pointer (some ⟨B, 0, none⟩), .int .i64 c] w (Cloned (.int .i64) 2 w (f 1 (.int .i64 c))) := by
  have c0 := blk_cell h.blk
  obtain ⟨a, k, hrun, G, ho, -⟩ := (h.c 1 (by omega) (by omega)).look (kt_key 1) Tryz.underlying154 (zeroInts w) (Maps.keyOf_int_mk Tryz.underlying3 wc)
  have hc := clone_i64 w G _ _ ho.rd hl
  clear h hl ho wc
  generalize f 1 (.int .i64 c) = L at *
  have hc2 := hc.mono (R' := fun e w' => ∃ a2 c2, e = .returned (.slice a2 L.length c2) ∧ RowKit.Hid (Cloned (.int .i64) 2 w L e w')) (by
    rintro e w' ⟨a2, c2, rfl, ho, hk⟩
    exact ⟨a2, c2, rfl, a2, c2, rfl, ho, hk⟩)
  clear hc
  generalize L.length = q at *
  go_enter Tryz.func49, Tryz.ntmps49
  go_wp2_with (go_at_call 99; refine hc2.mono ?_; clear hc2; rintro e w2 ⟨a2, c2, rfl, ho⟩)
  go_ret
  exact ho
theorem ixName_any {w : World} {B : Nat} {lab : Nat → Nat} {ve : Value} {m : Nat → Nat} {le : List Int} {f : Nat → Lit → List Int} {n : Nat} {D : DataW Unit} (h : IxW w B lab ve m le f n D) (x : ByteArray) (wc : x.size ≤ 9223372036854775807) (hl : (f 2 (keyL x)).length ≤ 1048576) :
    Calls Tryz.prog 50 #[.pointer (some ⟨B, 0, none⟩), .string x] w (Cloned (.int .i64) 2 w (f 2 (keyL x))) := by
  have c0 := blk_cell h.blk
  obtain ⟨a, k, hrun, G, ho, -⟩ := (h.c 2 (by omega) (by omega)).look (kt_key 2) Tryz.underlying155 (zeroInts w) (keyL_of wc)
  have hc := clone_i64 w G _ _ ho.rd hl
  clear h hl ho wc
  generalize f 2 (keyL x) = L at *
  have hc2 := hc.mono (R' := fun e w' => ∃ a2 c2, e = .returned (.slice a2 L.length c2) ∧ RowKit.Hid (Cloned (.int .i64) 2 w L e w')) (by
    rintro e w' ⟨a2, c2, rfl, ho, hk⟩
    exact ⟨a2, c2, rfl, a2, c2, rfl, ho, hk⟩)
  clear hc
  generalize L.length = q at *
  go_enter Tryz.func50, Tryz.ntmps50
  go_wp2_with (go_at_call 99; refine hc2.mono ?_; clear hc2; rintro e w2 ⟨a2, c2, rfl, ho⟩)
  go_ret
  exact ho
theorem ixReaders_any {w : World} {B : Nat} {lab : Nat → Nat} {ve : Value} {m : Nat → Nat} {le : List Int} {f : Nat → Lit → List Int} {n : Nat} {D : DataW Unit} (h : IxW w B lab ve m le f n D) (x : ByteArray) (wc : x.size ≤ 9223372036854775807) (hl : (f 3 (keyL x)).length ≤ 1048576) :
    Calls Tryz.prog 46 #[.pointer (some ⟨B, 0, none⟩), .string x] w (Cloned (.int .i64) 2 w (f 3 (keyL x))) := by
  have c0 := blk_cell h.blk
  obtain ⟨a, k, hrun, G, ho, -⟩ := (h.c 3 (by omega) (by omega)).look (kt_key 3) Tryz.underlying155 (zeroInts w) (keyL_of wc)
  have hc := clone_i64 w G _ _ ho.rd hl
  clear h hl ho wc
  generalize f 3 (keyL x) = L at *
  have hc2 := hc.mono (R' := fun e w' => ∃ a2 c2, e = .returned (.slice a2 L.length c2) ∧ RowKit.Hid (Cloned (.int .i64) 2 w L e w')) (by
    rintro e w' ⟨a2, c2, rfl, ho, hk⟩
    exact ⟨a2, c2, rfl, a2, c2, rfl, ho, hk⟩)
  clear hc
  generalize L.length = q at *
  go_enter Tryz.func46, Tryz.ntmps46
  go_wp2_with (go_at_call 99; refine hc2.mono ?_; clear hc2; rintro e w2 ⟨a2, c2, rfl, ho⟩)
  go_ret
  exact ho
theorem ixWriters_any {w : World} {B : Nat} {lab : Nat → Nat} {ve : Value} {m : Nat → Nat} {le : List Int} {f : Nat → Lit → List Int} {n : Nat} {D : DataW Unit} (h : IxW w B lab ve m le f n D) (x : ByteArray) (wc : x.size ≤ 9223372036854775807) (hl : (f 4 (keyL x)).length ≤ 1048576) :
    Calls Tryz.prog 47 #[.pointer (some ⟨B, 0, none⟩), .string x] w (Cloned (.int .i64) 2 w (f 4 (keyL x))) := by
  have c0 := blk_cell h.blk
  obtain ⟨a, k, hrun, G, ho, -⟩ := (h.c 4 (by omega) (by omega)).look (kt_key 4) Tryz.underlying155 (zeroInts w) (keyL_of wc)
  have hc := clone_i64 w G _ _ ho.rd hl
  clear h hl ho wc
  generalize f 4 (keyL x) = L at *
  have hc2 := hc.mono (R' := fun e w' => ∃ a2 c2, e = .returned (.slice a2 L.length c2) ∧ RowKit.Hid (Cloned (.int .i64) 2 w L e w')) (by
    rintro e w' ⟨a2, c2, rfl, ho, hk⟩
    exact ⟨a2, c2, rfl, a2, c2, rfl, ho, hk⟩)
  clear hc
  generalize L.length = q at *
  go_enter Tryz.func47, Tryz.ntmps47
  go_wp2_with (go_at_call 99; refine hc2.mono ?_; clear hc2; rintro e w2 ⟨a2, c2, rfl, ho⟩)
  go_ret
  exact ho
end Go.Proofs.YtnknihmchmmenaaGreat
