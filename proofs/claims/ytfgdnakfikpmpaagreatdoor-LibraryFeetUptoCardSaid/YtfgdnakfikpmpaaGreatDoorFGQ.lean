/-
  Parts of what is proved for this claim; each declaration is one of the seat's texts.
-/
import Derived.Test.YtfgdnakfikpmpaaGreatDoorFGO
import Derived.Test.YtfgdnakfikpmpaaGreatDoorFGP
set_option linter.unusedVariables false
set_option linter.unusedSimpArgs false
namespace Go.Proofs.YtfgdnakfikpmpaaGreatDoor
open Go Go.RowKit Go.Deep
theorem keyLaw : Maps.Keyed Tryz.prog 9 := Maps.string_keyed Tryz.underlying9
theorem zeroByte (w : World) : (zeroValue 5).run Tryz.prog w = .ok (.int .u8 0) w := by kernel_rfl
theorem keyL_of {s : ByteArray} (hs : s.size ≤ 9223372036854775807) : keyOf Tryz.prog 9 (.string s) = some (keyL s) := WideMaps.keyOf_string_mk Tryz.underlying9 (by rw [maxLen_is]; exact hs)
theorem or_wf (f : Fp) (s : ByteArray) {u : Int} (h : u = 1 ∨ u = 2) : (Lit.int .u8 (bits BinOp.or .u8 (f.use s) u)).wf = true := by
  have h1 : bits BinOp.or .u8 (f.use s) 1 = (mkFp (f.rs ++ [s]) f.ws).use s := use_or1 f.rs f.ws s
  have h2 : bits BinOp.or .u8 (f.use s) 2 = (mkFp f.rs (f.ws ++ [s])).use s := use_or2 f.rs f.ws s
  have r1 := use_range (mkFp (f.rs ++ [s]) f.ws) s
  have r2 := use_range (mkFp f.rs (f.ws ++ [s])) s
  rcases h with rfl | rfl
  · rw [h1]; simp [Lit.wf, IntKind.min, IntKind.max, IntKind.signed, IntKind.bits]; omega
  · rw [h2]; simp [Lit.wf, IntKind.min, IntKind.max, IntKind.signed, IntKind.bits]; omega
def MapOf (w : World) (b n : Nat) (D : DU) (f : Fp) : Prop := w.ownsMap Tryz.prog 9 (plainElem Tryz.prog 5) b n D ∧ SetD D f
theorem MapOf.use {w : World} {b n : Nat} {D : DU} {f : Fp} (h : MapOf w b n D f) {s : ByteArray} {c : Int} (hat : D.atKey (keyL s) (.lit (.int .u8 0)) = .lit (.int .u8 c)) : c = f.use s := by
  have e := hat.symm.trans (h.2.use s)
  injection e with e
  injection e
theorem MapOf.keep {w w' : World} {b n : Nat} {D : DU} {f : Fp} (h : MapOf w b n D f) {M : Nat → Prop} (hk : Keep M w w') (hM : ¬ M b) : MapOf w' b n D f := by
  refine ⟨?_, h.2⟩
  obtain ⟨es, clock, h1, h2⟩ := h.1
  exact ⟨es, clock, (hk.block b (blk_lt h1) hM).trans h1, h2⟩
theorem MapOf.lt {w : World} {b n : Nat} {D : DU} {f : Fp} (h : MapOf w b n D f) : b < w.heap.size := h.1.lt
def OfMid (w : World) (S : Nat → Prop) (u v : Value) (f g : Fp) (n : Nat) (D : DU) (wr : World) : Prop :=
  MapOf wr (w.heap.size + 1) n D g ∧ Keep No w wr ∧ wr.heap[w.heap.size]? = some (.cells #[u, v] 49 (0, 0)) ∧ FpAt wr S u v f
theorem OfMid.put {w : World} {S : Nat → Prop} {u v : Value} {f g g' : Fp} {n : Nat} {D D' : DU} {wr w1 : World} (h : OfMid w S u v f g n D wr) (hm : MapOf w1 (w.heap.size + 1) (n + 1) D' g') (hg : wr.grownBy w1 (some (w.heap.size + 1))) (hS : ∀ k, S k → k < w.heap.size) : OfMid w S u v f g' (n + 1) D' w1 := by
  obtain ⟨h1, h2, h3, h4⟩ := h
  have hk := Keep.grown hg
  refine ⟨hm, h2.then hk fun i hi e => ?_, hk.blk h3 (fun e => ?_), h4.agree (hk.agree fun i _ hs e => ?_)⟩
  · have := Option.some.inj e; omega
  · have := Option.some.inj e; omega
  · have := Option.some.inj e; have := hS i hs; omega
def GivesM (w : World) (f : Fp) (e : Ending) (w' : World) : Prop := ∃ D, e = .returned (.map (some (w.heap.size + 1))) ∧ MapOf w' (w.heap.size + 1) (f.rs.length + f.ws.length) D f ∧ Keep No w w'
theorem take_snoc (l : List ByteArray) (k : Nat) (hk : k < l.length) : l.take (k + 1) = l.take k ++ [l[k]] := by
  rw [List.take_succ_eq_append_getElem hk]
set_option maxRecDepth 10000 in
set_option maxHeartbeats 4000000 in
theorem of_any (w : World) (S : Nat → Prop) (u v : Value) (f : Fp) (h : FpAt w S u v f) (hl : (f.rs.length + f.ws.length + 1) * 16 ≤ 140737488355328) :
    Calls Tryz.prog 113 #[.agg #[u, v]] w (GivesM w f) := by
  have hS : ∀ k, (fun k => S k ∧ k < w.heap.size) k → k < w.heap.size := fun k hk => hk.2
  have h' : FpAt w (fun k => S k ∧ k < w.heap.size) u v f := h.mono fun i hi hs => ⟨hs, hi⟩
  clear h
  revert hS h'
  generalize (fun k => S k ∧ k < w.heap.size) = S'
  intro hS h
  have hmm := @run_makeMap Tryz.prog
  have HM0 : RowKit.Hid (OfMid w S' u v f (mkFp (f.rs.take 0) []) 0 (.map []) ((w.alloc (.cells #[u, v] 49)).alloc (.map #[] 0))) := by
    have K2 : Keep No w ((w.alloc (.cells #[u, v] 49)).alloc (.map #[] 0)) := ((Keep.refl No w).alloc _).alloc _
    refine ⟨⟨?_, SetD.empty⟩, K2, blk_alloc (blk_new w _), h.keep K2⟩
    have := World.ownsMap_made (H := Unit) (w.alloc (.cells #[u, v] 49)) Tryz.prog 9 (plainElem Tryz.prog 5)
    simpa using this
  have hn1 : f.rs.length ≤ 8796093022208 := by omega
  have hn2 : f.ws.length ≤ 8796093022208 := by omega
  have hml : maxLen = 9223372036854775807 := maxLen_is
  have HML := Lib.hid hml
  obtain ⟨a1, c1, rfl, -⟩ := strs_at h.1
  obtain ⟨a2, c2, rfl, -⟩ := strs_at h.2
  have HS := Lib.hid hS
  have HFp := Lib.hid (And.intro hn1 hn2)
  clear h hl hS hml hn1 hn2
  generalize hm1 : f.rs.length = m1 at *
  generalize hm2 : f.ws.length = m2 at *
  have HE := Lib.hid (And.intro hm1 hm2)
  clear hm1 hm2
  go_enter Tryz.func113, Tryz.ntmps113
  have q0 := blk_cell HM0.out.2.2.1
  go_wp2_with fail
  clear q0 hmm
  generalize ((w.alloc (.cells #[.slice a1 m1 c1, .slice a2 m2 c2] 49)).alloc (.map #[] 0)) = wz at *
  go_loopw [12] (fun i wr => ∃ k : Nat, ∃ D, k ≤ m1 ∧ i = .int .i64 k ∧ RowKit.Hid (OfMid w S' (.slice a1 m1 c1) (.slice a2 m2 c2) f (mkFp (f.rs.take k) []) k D wr)) (fun i _ => m1 - (intOf i).toNat)
  case atStart => exact ⟨0, _, by omega, rfl, HM0⟩
  case round =>
    obtain ⟨k, D, hk, rfl, HM⟩ := hrel
    by_cases hlt : k < m1
    · have j1 : (k : Int) < m1 := by omega
      have j0 : (0 : Int) ≤ k := by omega
      have hb1 : m1 ≤ 8796093022208 := HFp.out.1
      have j3 : (k : Int) ≤ 9223372036854775806 := by omega
      have hlt' : k < f.rs.length := by rw [HE.out.1]; exact hlt
      obtain ⟨b, off, rfl, hc, hxs⟩ := strs_get HM.out.2.2.2.1 k hlt'
      have htk := take_snoc f.rs k hlt'
      generalize f.rs[k] = x at hc hxs htk
      have hkn : k < maxLen := by rw [HML.out]; omega
      have hown := HM.out.1.1
      have HT := Lib.hid (And.intro htk hlt)
      clear htk hlt' hlt hk hb1
      go_wp2_with (first
        | (at_lookup; refine wpList_lookup_own_int _ rfl _ _ 199 rfl 9 5 .u8 keyLaw Tryz.underlying199 Tryz.underlying5 (zeroByte _) (w.heap.size + 1) k _ rfl hown _ _ rfl (keyL_of hxs) ?_; intro c hat hwc; obtain rfl := HM.out.1.use hat; clear hat hwc)
        | (at_mapUpdate; refine wpList_mapUpdate_own _ rfl _ _ _ 199 rfl 9 5 keyLaw Tryz.underlying199 _ (w.heap.size + 1) k _ rfl hown hkn _ _ _ rfl rfl (keyL_of hxs) _ [] (plainElem_int Tryz.underlying5 (or_wf _ _ (.inl rfl))) ?_; intro w1 hown1 hg1))
      have HM1 := Lib.hid (HM.out.put ⟨hown1, HM.out.1.2.read⟩ hg1 HS.out)
      rw [← HT.out.1] at HM1
      clear hown hown1 hg1 HM
      go_roundw
      case rel => exact ⟨k + 1, _, by have := HT.out.2; omega, by simp, HM1⟩
      case measure => simp [intOf]; have := HT.out.2; omega
    · have hke : k = m1 := by omega
      subst hke
      have HM2 : RowKit.Hid (OfMid w S' (.slice a1 k c1) (.slice a2 m2 c2) f (mkFp f.rs (f.ws.take 0)) (k + 0) D wr) := by
        have := HM.out
        rw [List.take_of_length_le (by rw [HE.out.1]; omega)] at this
        exact this
      have j1 : ¬ (k : Int) < k := by omega
      have q0 := blk_cell HM.out.2.2.1
      clear hlt hk HM HM0
      go_wp2_with fail
      clear q0 j1
      go_loopw [24] (fun i wr2 => ∃ j : Nat, ∃ D, j ≤ m2 ∧ i = .int .i64 j ∧ RowKit.Hid (OfMid w S' (.slice a1 k c1) (.slice a2 m2 c2) f (mkFp f.rs (f.ws.take j)) (k + j) D wr2)) (fun i _ => m2 - (intOf i).toNat)
      case atStart => exact ⟨0, _, by omega, rfl, HM2⟩
      case round =>
        obtain ⟨j, D, hj, rfl, HM⟩ := hrel
        by_cases hlt : j < m2
        · have j1 : (j : Int) < m2 := by omega
          have j0 : (0 : Int) ≤ j := by omega
          have hb1 : k ≤ 8796093022208 := HFp.out.1
          have hb2 : m2 ≤ 8796093022208 := HFp.out.2
          have j3 : (j : Int) ≤ 9223372036854775806 := by omega
          have hlt' : j < f.ws.length := by rw [HE.out.2]; exact hlt
          obtain ⟨b, off, rfl, hc, hxs⟩ := strs_get HM.out.2.2.2.2 j hlt'
          have htk := take_snoc f.ws j hlt'
          generalize f.ws[j] = x at hc hxs htk
          have hkn : k + j < maxLen := by rw [HML.out]; omega
          have hown := HM.out.1.1
          have HT := Lib.hid (And.intro htk hlt)
          clear htk hlt' hlt hj hb1 hb2
          go_wp2_with (first
            | (at_lookup; refine wpList_lookup_own_int _ rfl _ _ 199 rfl 9 5 .u8 keyLaw Tryz.underlying199 Tryz.underlying5 (zeroByte _) (w.heap.size + 1) (k + j) _ rfl hown _ _ rfl (keyL_of hxs) ?_; intro c hat hwc; obtain rfl := HM.out.1.use hat; clear hat hwc)
            | (at_mapUpdate; refine wpList_mapUpdate_own _ rfl _ _ _ 199 rfl 9 5 keyLaw Tryz.underlying199 _ (w.heap.size + 1) (k + j) _ rfl hown hkn _ _ _ rfl rfl (keyL_of hxs) _ [] (plainElem_int Tryz.underlying5 (or_wf _ _ (.inr rfl))) ?_; intro w1 hown1 hg1))
          have HM1 := Lib.hid (HM.out.put ⟨hown1, HM.out.1.2.write⟩ hg1 HS.out)
          rw [← HT.out.1, Nat.add_assoc] at HM1
          clear hown hown1 hg1 HM
          go_roundw
          case rel => exact ⟨j + 1, _, by have := HT.out.2; omega, by simp, HM1⟩
          case measure => simp [intOf]; have := HT.out.2; omega
        · have hje : j = m2 := by omega
          subst hje
          have j1 : ¬ (j : Int) < j := by omega
          clear hlt hj
          go_wp2_with fail
          go_ret
          refine ⟨D, rfl, ?_⟩
          have := HM.out
          rw [List.take_of_length_le (by rw [HE.out.2]; omega)] at this
          rw [HE.out.1, HE.out.2]
          exact ⟨this.1, this.2.1⟩
end Go.Proofs.YtfgdnakfikpmpaaGreatDoor
namespace Go.Proofs.YtfgdnakfikpmpaaGreatDoor
open Go Go.RowKit Go.Deep
def KeysMid (w : World) (b n : Nat) (D : DU) (f : Fp) (u : Int) (left : Lit → Bool) (cnt : Nat) (v : Value) (ks : List ByteArray) (wr : World) : Prop :=
  wr.ranges Tryz.prog 9 (plainElem Tryz.prog 5) b w.heap.size n D left cnt ∧ Coll f u D left ks ∧ OwnL (w.heap.size + 1) wr v ks ∧ Keep No w wr ∧ w.heap.size + 1 ≤ wr.heap.size ∧ ks.length + cnt ≤ n ∧ b < w.heap.size
open Go.Sort in
theorem sort_texts {lo : Nat} {w : World} {v : Value} {ks : List ByteArray} (h : OwnL lo w v ks) (hn : ks.Nodup) (hl : ks.length ≤ 8796093022208) :
    Calls Tryz.prog 126 #[v] w fun e w' => e = .returned (.tuple #[]) ∧ ∃ zs, Rising zs ∧ (∀ s, s ∈ zs ↔ s ∈ ks) ∧ OwnL lo w' v zs ∧ Keep (Fr lo w.heap.size) w w' := by
  obtain ⟨a, c, hv, -⟩ := Own.form h
  by_cases hne : ks = []
  · subst hne
    subst hv
    have hcon := AnyM.slices_Sort_string_none Tryz.laysSort a c w
    change Calls Tryz.prog 126 _ _ _ at hcon
    refine hcon.mono ?_
    rintro e w' ⟨rfl, rfl⟩
    exact ⟨rfl, [], List.Pairwise.nil, fun s => Iff.rfl, h, Keep.refl _ _⟩
  · subst hv
    obtain ⟨b, off, cur, rfl, hf, hb, -, hc, hm, hs, ht⟩ := h.open' hne
    have hH : Holds encStr w b off (ks.map fun s => s.data.toList).toArray := fun j hj => by
      have hj' : j < ks.length := by simpa using hj
      refine ⟨?_, Go.frozen_of_row w b _ cur 9 hb⟩
      rw [cell_of_row w b _ cur 9 (0, 0) hb]
      have := congrArg (fun l => l[j]?) ht
      simp only [List.getElem?_take, if_pos hj', List.getElem?_drop, List.getElem?_map, Array.getElem?_toList] at this
      rw [this, List.getElem?_eq_getElem hj']
      simp [encStr, hj']
    have hcon := AnyM.slices_Sort_string Tryz.laysSort b off c (ks.map fun s => s.data.toList) w hH (blk_lt hb) (by simp; omega)
    change Calls Tryz.prog 126 _ _ _ at hcon
    simp only [List.length_map] at hcon
    refine hcon.mono ?_
    rintro e w' ⟨rfl, N, os, rfl⟩
    have hbk : ((((ks.map fun s => s.data.toList).mergeSort fun x y => decide (x ≤ y)).map fun l => (⟨l.toArray⟩ : ByteArray)).map fun s => s.data.toList) = (ks.map fun s => s.data.toList).mergeSort fun x y => decide (x ≤ y) := by
      rw [List.map_map]
      conv => rhs; rw [← List.map_id ((ks.map fun s => s.data.toList).mergeSort fun x y => decide (x ≤ y))]
      apply List.map_congr_left
      intro x _
      rfl
    have hperm : ((ks.map fun s => s.data.toList).mergeSort fun x y => decide (x ≤ y)).Perm (ks.map fun s => s.data.toList) := List.mergeSort_perm _ _
    have hsort : ((ks.map fun s => s.data.toList).mergeSort fun x y => decide (x ≤ y)).Pairwise fun x y => x ≤ y := by
      have := List.pairwise_mergeSort (le := fun (x y : List UInt8) => decide (x ≤ y)) (fun a b c h1 h2 => by simp only [decide_eq_true_eq] at *; exact List.le_trans h1 h2) (fun a b => by simp only [Bool.or_eq_true, decide_eq_true_eq]; exact List.le_total a b) (ks.map fun s => s.data.toList)
      exact this.imp fun h => by simpa using h
    generalize (ks.map fun s => s.data.toList).mergeSort (fun x y => decide (x ≤ y)) = d at *
    generalize hzz : (d.map fun l => (⟨l.toArray⟩ : ByteArray)) = zs at *
    subst hbk
    have hmem : ∀ s, s ∈ zs ↔ s ∈ ks := fun s => by
      have := hperm.mem_iff (a := s.data.toList)
      simp only [List.mem_map] at this
      constructor
      · intro hs
        obtain ⟨t, h1, h2⟩ := this.1 ⟨s, hs, rfl⟩
        rw [← text_ext h2]; exact h1
      · intro hs
        obtain ⟨t, h1, h2⟩ := this.2 ⟨s, hs, rfl⟩
        rw [← text_ext h2]; exact h1
    have hlen : zs.length = ks.length := by simpa using hperm.length_eq
    have hT := h.turned hne hlen (fun x hx => h.all x ((hmem x).1 hx)) N os _ rfl
    exact ⟨rfl, zs, sorted_rising hn hperm hsort, hmem, hT.1, hT.2.mono fun k hk e => by cases (show k = b from e); exact hf⟩
set_option maxRecDepth 10000 in
set_option maxHeartbeats 4000000 in
theorem keys_any (w : World) (b n : Nat) (D : DU) (f : Fp) (u : Int) (h : MapOf w b n D f) (hn : n ≤ 8796093022200) :
    Calls Tryz.prog 114 #[.map (some b), .int .u8 u] w (GivesT w (f.sel u)) := by
  have hown := h.1
  have hbl := h.lt
  have HD := Lib.hid h.2
  have hsz : Maps.size D ≤ n := hown.size_le
  have HB := Lib.hid (And.intro hbl (And.intro hsz hn))
  clear h hbl hsz hn
  go_enter Tryz.func114, Tryz.ntmps114
  go_wp2_with (at_range; refine wpList_range_own _ rfl _ 199 rfl 9 5 keyLaw Tryz.underlying199 _ b n _ rfl hown ?_; intro w0 hrg0 hg0 hs0)
  go_frame
  have HM0 : RowKit.Hid (KeysMid w b n D f u (Maps.has D) (Maps.size D) (.slice none 0 0) [] w0) :=
    ⟨hrg0, Coll.start f u D, Own.nil _ _ _ _, (Keep.grown hg0).mono (fun k _ e => by cases e), by omega, by have := HB.out.2.1; simpa using this, HB.out.1⟩
  clear hrg0 hg0 hs0 hown
  go_loopw [5] (fun v wr => ∃ left cnt ks, RowKit.Hid (KeysMid w b n D f u left cnt v ks wr)) (fun _ wr => wr.rangeLeft b w.heap.size)
  case atStart => exact ⟨_, _, _, HM0⟩
  case round =>
    obtain ⟨left, cnt, ks, HM⟩ := hrel
    have hrg := HM.out.1
    have hkl : ks.length + 1 ≤ 8796093022208 := by have := HM.out.2.2.2.2.2.1; have := HB.out.2.2; omega
    obtain ⟨a0, c0, rfl, -⟩ := Own.form HM.out.2.2.1
    go_wp2_with (at_next; refine wpList_next_ranges _ rfl _ rfl 9 keyLaw _ Value.string (Value.int .u8) (fun key kl hk => by obtain ⟨s, e, _⟩ := WideMaps.string_of_keyOf Tryz.underlying9 hk; exact ⟨s, e⟩) (fun v y hv => by obtain ⟨c, e, _⟩ := plainElem_int_inv Tryz.underlying5 hv; exact ⟨c, e⟩) b w.heap.size n _ _ _ rfl hrg ?_ ?_)
    · intro hc0 hl0
      have hd := HM.out.2.1.done HD.out hl0
      have hs := (sort_texts HM.out.2.2.1 hd.1 (by omega)).mono (R' := fun e w' => e = .returned (.tuple #[]) ∧ RowKit.Hid (OwnT w w' (.slice a0 ks.length c0) (f.sel u))) (by
        rintro e w' ⟨rfl, zs, hr, hm, ho, hk⟩
        have hz : zs = f.sel u := Rising.eq hr ((setT_rising _).filter _) fun y => by rw [hm, hd.2]
        subst hz
        exact ⟨rfl, Own.mono ho fun k hk' => ⟨by have := hk'.1; omega, hk'.2⟩, HM.out.2.2.2.1.then hk fun i hi hf => by have := hf.1; omega⟩)
      clear hd hc0 hl0 hrg
      go_wp2_with (go_at_call 126; refine hs.mono ?_; clear hs; rintro e w' ⟨rfl, HO⟩)
      go_ret
      exact ⟨_, _, _, rfl, HO⟩
    · intro x c kl y yp w1 cnt1 hkey hlk hv hat hrg1 hlt hg1 hs1 hen
      obtain ⟨s, e, hkl', hxs⟩ := WideMaps.string_of_keyOf Tryz.underlying9 hkey
      obtain rfl : x = s := by injection e
      obtain ⟨c', e', hy, -⟩ := plainElem_int_inv Tryz.underlying5 hv
      obtain rfl : c = c' := by injection e'
      obtain rfl : kl = keyL x := hkl'
      have hc : c = f.use x := MapOf.use (w := w1) (b := b) (n := n) ⟨hrg1.owns, HD.out⟩ (by rw [hat]; exact congrArg Prod.fst hy)
      have hhas : Maps.has D (keyL x) = true := Maps.has_true_of_atKey hat
      have hcoll := HM.out.2.1.step hlk hhas
      have hml := hrg.left_eq
      have hk1 : Keep No w w1 := HM.out.2.2.2.1.then (Keep.grown hg1) fun i hi e => by have := Option.some.inj e; omega
      have ho1 : OwnL (w.heap.size + 1) w1 (.slice a0 ks.length c0) ks := HM.out.2.2.1.keep (Keep.grown hg1) fun i hi e => by have := Option.some.inj e; omega
      have hsz1 : w.heap.size + 1 ≤ w1.heap.size := by rw [hs1]; exact HM.out.2.2.2.2.1
      have hcnt : ks.length + 1 + cnt1 ≤ n := by have := HM.out.2.2.2.2.2.1; omega
      subst hc
      by_cases hu : useB f u x = true
      · rw [if_pos hu] at hcoll
        have hbit : (bits BinOp.and .u8 (f.use x) u != 0) = true := hu
        obtain ⟨a2, c2, w2, hrun, ho2, hk2⟩ := ho1.app hsz1 x hxs (by omega)
        have hrg2 : w2.ranges Tryz.prog 9 (plainElem Tryz.prog 5) b w.heap.size n D (fun z => left z && !z.sameKey (keyL x)) cnt1 := by
          have hbl := HB.out.1
          obtain ⟨es, clock, since, seen, c9, g1, g2, g3, g4, g5, g6⟩ := hrg1
          exact ⟨es, clock, since, seen, c9, (hk2.block b (blk_lt g1) fun hf => by have := hf.1; omega).trans g1, g2, g3, g4, (hk2.block _ (blk_lt g5) fun hf => by have := hf.1; omega).trans g5, g6⟩
        have HM1 : RowKit.Hid (KeysMid w b n D f u _ cnt1 _ _ w2) := ⟨hrg2, hcoll, ho2, hk1.then hk2 fun i hi hf => by have := hf.1; omega, Nat.le_trans hsz1 hk2.size, by simpa using hcnt, HB.out.1⟩
        have HX := Lib.hid (And.intro hml (And.intro hrg2.left_eq hlt))
        clear hu hcoll hk1 ho1 hsz1 hcnt ho2 hk2 hrg2 hrg1 hrg hg1 hs1 hat hv hkey hy hhas hml hlt hkl hlk
        go_wp2_with (at_builtin; refine wpList_app rfl (.tmp 19) (.tmp 21) 23 23 rfl rfl rfl hrun ?_)
        go_roundw
        case rel => exact ⟨_, _, _, by simpa using HM1⟩
        case measure => rw [HX.out.1, HX.out.2.1]; exact HX.out.2.2
      · rw [if_neg hu] at hcoll
        rw [Bool.not_eq_true] at hu
        have hbit : (bits BinOp.and .u8 (f.use x) u != 0) = false := hu
        have HM1 : RowKit.Hid (KeysMid w b n D f u _ cnt1 _ _ w1) := ⟨hrg1, hcoll, ho1, hk1, hsz1, by omega, HB.out.1⟩
        have HX := Lib.hid (And.intro hml (And.intro hrg1.left_eq hlt))
        clear hu hcoll hk1 ho1 hsz1 hcnt hrg1 hrg hg1 hs1 hat hv hkey hy hhas hml hlt hkl hlk
        go_wp2_with fail
        go_roundw
        case rel => exact ⟨_, _, _, HM1⟩
        case measure => rw [HX.out.1, HX.out.2.1]; exact HX.out.2.2
end Go.Proofs.YtfgdnakfikpmpaaGreatDoor
namespace Go.Proofs.YtfgdnakfikpmpaaGreatDoor
open Go Go.RowKit Go.Deep
theorem norm_cases (f : Fp) : ((f.rs ++ f.ws).all keyOk = false → f.norm = (mkFp [] [], 30)) ∧ ((f.rs ++ f.ws).all keyOk = true → 64 < (setT (f.rs ++ f.ws)).length → f.norm = (mkFp [] [], 6)) ∧
    ((f.rs ++ f.ws).all keyOk = true → ¬ 64 < (setT (f.rs ++ f.ws)).length → f.norm = (mkFp (setT f.rs) (setT f.ws), 0)) := by
  refine ⟨fun h => ?_, fun h k => ?_, fun h k => ?_⟩ <;> unfold Fp.norm
  · rw [if_pos h]
  · rw [if_neg (by rw [h]; simp), if_pos k]
  · rw [if_neg (by rw [h]; simp), if_neg k]
theorem two_own {w w4 w5 w6 : World} {u5 u6 : Value} {l m : List ByteArray} (k : Keep No w w6) (h5 : OwnT w4 w6 u5 l) (h6 : OwnT w5 w6 u6 m) (l45 : w4.heap.size ≤ w5.heap.size) {b : Nat} (hb0 : w.heap.size ≤ b) (hb : b < w4.heap.size) :
    OwnT w ((w6.setCell ⟨b, 0, none⟩ u5).setCell ⟨b, 1, none⟩ u6) u5 l ∧ OwnT w ((w6.setCell ⟨b, 0, none⟩ u5).setCell ⟨b, 1, none⟩ u6) u6 m ∧ Keep No w ((w6.setCell ⟨b, 0, none⟩ u5).setCell ⟨b, 1, none⟩ u6) := by
  have kf := keep_two w6 b u5 u6
  have hk := k.setNew2 hb0 u5 u6
  exact ⟨h5.over kf (fun i hi e => by have : i = b := e; omega) (by omega) hk, h6.over kf (fun i hi e => by have : i = b := e; omega) (by omega) hk, hk⟩
theorem two_nil {w w3 : World} (k : Keep No w w3) {b : Nat} (hb0 : w.heap.size ≤ b) :
    OwnF w ((w3.setCell ⟨b, 0, none⟩ (.slice none 0 0)).setCell ⟨b, 1, none⟩ (.slice none 0 0)) (.slice none 0 0) (.slice none 0 0) (mkFp [] []) ∧ Keep No w ((w3.setCell ⟨b, 0, none⟩ (.slice none 0 0)).setCell ⟨b, 1, none⟩ (.slice none 0 0)) := by
  have hk := k.setNew2 hb0 (.slice none 0 0) (.slice none 0 0)
  exact ⟨⟨OwnT.nil' hk, OwnT.nil' hk⟩, hk⟩
end Go.Proofs.YtfgdnakfikpmpaaGreatDoor
namespace Go.Proofs.YtfgdnakfikpmpaaGreatDoor
open Go Go.RowKit Go.Deep
def NormW (w : World) (S : Nat → Prop) (u v : Value) (f : Fp) (w3 : World) : Prop :=
  w3.heap[w.heap.size]? = some (.cells #[u, v] 49 (0, 0)) ∧ w3.heap[w.heap.size + 1]? = some (.cells #[.slice none 0 0, .slice none 0 0] 49 (0, 0)) ∧ Keep No w w3 ∧ FpAt w3 S u v f
theorem NormW.keep {w : World} {S : Nat → Prop} {u v : Value} {f : Fp} {w3 w4 : World} (h : NormW w S u v f w3) (k : Keep No w3 w4) : NormW w S u v f w4 := by
  obtain ⟨h1, h2, h3, h5⟩ := h
  exact ⟨k.blk h1 (fun x => x), k.blk h2 (fun x => x), h3.trans k, h5.keep k⟩
def pickL (f : Fp) : Nat → List ByteArray | 0 => f.rs | _ => f.ws
def pickV (u v : Value) : Nat → Value | 0 => u | _ => v
def keysTo (f : Fp) (i : Nat) : Prop := ∀ j, j < i → (pickL f j).all keyOk = true
theorem keysTo_all {f : Fp} (h : keysTo f 2) : (f.rs ++ f.ws).all keyOk = true := by
  rw [List.all_append, show f.rs.all keyOk = true from h 0 (by omega), show f.ws.all keyOk = true from h 1 (by omega)]; rfl
theorem keysTo_bad {f : Fp} {i : Nat} (h : (pickL f i).all keyOk = false) : (f.rs ++ f.ws).all keyOk = false := by
  rw [List.all_append]
  cases i with
  | zero => rw [show f.rs.all keyOk = false from h]; rfl
  | succ i => rw [show f.ws.all keyOk = false from h, Bool.and_false]
theorem keysTo_succ {f : Fp} {i : Nat} (h : keysTo f i) (k : (pickL f i).all keyOk = true) : keysTo f (i + 1) := fun j hj => by
  by_cases e : j = i
  · subst e; exact k
  · exact h j (by omega)
set_option maxRecDepth 10000 in
set_option maxHeartbeats 4000000 in
theorem Norm_any (w : World) (S : Nat → Prop) (u v : Value) (f : Fp) (h : FpAt w S u v f) (hl : (f.rs.length + f.ws.length + 1) * 16 ≤ 140737488355200) :
    Calls Tryz.prog 68 #[.agg #[u, v]] w (GivesFC w f.norm) := by
  have hL1 : f.rs.length ≤ 8796093022199 := by omega
  have hL2 : f.ws.length ≤ 8796093022199 := by omega
  have hL3 : f.rs.length + f.ws.length ≤ 8796093022199 := by omega
  have HN := Lib.hid (norm_cases f)
  have HM0 : RowKit.Hid (NormW w S u v f (((w.alloc (.cells #[u, v] 49)).alloc (.cells #[.slice none 0 0, .slice none 0 0] 49)).alloc (.cells #[u, v] 23))) := by
    have K3 : Keep No w (((w.alloc (.cells #[u, v] 49)).alloc (.cells #[.slice none 0 0, .slice none 0 0] 49)).alloc (.cells #[u, v] 23)) := (((Keep.refl No w).alloc _).alloc _).alloc _
    refine ⟨blk_alloc (blk_alloc (blk_new w _)), blk_alloc ?_, K3, h.keep K3⟩
    have := blk_new (w.alloc (.cells #[u, v] 49)) (.cells #[.slice none 0 0, .slice none 0 0] 49)
    simpa using this
  have x3 : (((w.alloc (.cells #[u, v] 49)).alloc (.cells #[.slice none 0 0, .slice none 0 0] 49)).alloc (.cells #[u, v] 23)).heap[w.heap.size + 2]? = some (.cells #[u, v] 23 (0, 0)) := by
    have := blk_new ((w.alloc (.cells #[u, v] 49)).alloc (.cells #[.slice none 0 0, .slice none 0 0] 49)) (.cells #[u, v] 23)
    simpa using this
  obtain ⟨a1, c1, e1, -⟩ := strs_at h.1
  obtain ⟨a2, c2, e2, -⟩ := strs_at h.2
  have hof := fun (w4 : World) (hk : FpAt w4 S u v f) => of_any w4 S u v f hk (by omega)
  have HX := Lib.hid (And.intro hL3 hof)
  have hform : ∀ i, ∃ a c, pickV u v i = .slice a (pickL f i).length c ∧ (pickL f i).length ≤ 8796093022199 := fun i => by
    cases i with
    | zero => exact ⟨a1, c1, e1, hL1⟩
    | succ i => exact ⟨a2, c2, e2, hL2⟩
  have hpick : ∀ (w4 : World), FpAt w4 S u v f → ∀ i, Rd (.slice .str) w4 S [pickV u v i] (pickL f i) := fun w4 hk i => by
    cases i with
    | zero => exact hk.1
    | succ i => exact hk.2
  have HP := Lib.hid (And.intro hform hpick)
  have hu1 : u.oneCell' = true := by rw [e1]; rfl
  subst e1 e2
  have HL := Lib.hid (And.intro hL1 hL2)
  clear h hl hL1 hL2 hL3 hof hform hpick hu1
  generalize hm1 : f.rs.length = m1 at *
  generalize hm2 : f.ws.length = m2 at *
  have HE := Lib.hid (And.intro hm1 hm2)
  clear hm1 hm2
  have q0 := blk_cell HM0.out.1
  go_enter Tryz.func68, Tryz.ntmps68
  go_wp2_with fail
  clear q0
  generalize (((w.alloc (.cells #[.slice a1 m1 c1, .slice a2 m2 c2] 49)).alloc (.cells #[.slice none 0 0, .slice none 0 0] 49)).alloc (.cells #[.slice a1 m1 c1, .slice a2 m2 c2] 23)) = w3 at *
  go_loopw [15] (fun i wr => ∃ k : Nat, k ≤ 2 ∧ i = .int .i64 k ∧ wr = w3 ∧ RowKit.Hid (keysTo f k)) (fun i _ => 2 - (intOf i).toNat)
  case atStart => exact ⟨0, by omega, rfl, rfl, fun j hj => absurd hj (Nat.not_lt_zero _)⟩
  case round =>
    obtain ⟨k, hk, rfl, hw, HK⟩ := hrel
    subst hw
    by_cases hlt : k < 2
    · obtain ⟨a, c, hpv, hll⟩ := HP.out.1 k
      have hrd := HP.out.2 wr HM0.out.2.2.2 k
      have hc3 : wr.cell? ⟨w.heap.size + 2, k, none⟩ = some (.slice a (pickL f k).length c) := by
        rw [← hpv, blk_cell x3 k]
        obtain rfl | rfl : k = 0 ∨ k = 1 := by omega
        · rfl
        · rfl
      rw [hpv] at hrd
      have j1 : (k : Int) < 2 := by omega
      have j0 : (0 : Int) ≤ k := by omega
      have hsucc := fun hh => keysTo_succ (f := f) (i := k) HK.out hh
      have hbad := fun hh => HN.out.1 (keysTo_bad (f := f) (i := k) hh)
      have HZ := Lib.hid (And.intro hsucc (And.intro hbad hlt))
      clear hsucc hbad hpv hk
      generalize pickL f k = l at *
      go_wp2_with fail
      go_loopw [21] (fun i wr' => ∃ j : Nat, j ≤ l.length ∧ i = .int .i64 j ∧ wr' = wr ∧ (l.take j).all keyOk = true) (fun i _ => l.length - (intOf i).toNat)
      case atStart => exact ⟨0, by omega, rfl, rfl, by simp⟩
      case round =>
        obtain ⟨j, hj, rfl, hw, ha⟩ := hrel
        subst hw
        by_cases hjl : j < l.length
        · have i1 : (j : Int) < l.length := by omega
          have i0 : (0 : Int) ≤ j := by omega
          have i3 : (j : Int) ≤ 9223372036854775806 := by omega
          obtain ⟨b, off, rfl, hc, hxs⟩ := strs_get hrd j hjl
          have hsucc := allT_take l keyOk j hjl ha
          have hbad := allT_false l keyOk j hjl
          generalize l[j] = x at hc hxs hsucc hbad
          cases hx : keyOk x with
          | true =>
            rw [hx] at hsucc
            have HA := Lib.hid (And.intro hsucc hjl)
            clear hsucc hbad ha hjl hj hlt hll hrd
            go_wp2_with (go_at_call 74; refine (keyOk_any x hxs _).mono ?_; rintro e w' ⟨rfl, rfl⟩; rw [hx])
            go_roundw
            case rel => exact ⟨j + 1, by have := HA.out.2; omega, by simp, by first | rfl | trivial, HA.out.1⟩
            case measure => simp [intOf]; have := HA.out.2; omega
          | false =>
            have HB := Lib.hid (HZ.out.2.1 (hbad hx))
            clear hsucc hbad ha hjl hj hlt hll hrd
            have x2 := HM0.out.2.1
            have q2 := blk_cell x2
            have f2 := blk_fro x2
            go_wp2_with (go_at_call 74; refine (keyOk_any x hxs _).mono ?_; rintro e w' ⟨rfl, rfl⟩; rw [hx])
            have y2 := blk_two x2 (.slice none 0 0) (.slice none 0 0)
            have s2 := blk_cell y2
            have s0 := s2 0
            have s1 := s2 1
            simp at s0 s1
            have hk1 := two_nil HM0.out.2.2.1 (Nat.le_succ w.heap.size)
            refine bodyPost_ret (v := .tuple #[.agg #[.slice none 0 0, .slice none 0 0], .int .i64 30]) (by simp [results, Tryz.results68, go_sem, s0, s1]) rfl ?_
            rw [HB.out]
            exact ⟨_, _, _, _, _, _, rfl, hk1⟩
        · have i1 : ¬ (j : Int) < l.length := by omega
          have hle : l.length ≤ j := by omega
          rw [List.take_of_length_le hle] at ha
          have HS := Lib.hid (And.intro (HZ.out.1 ha) HZ.out.2.2)
          clear ha hle hj hjl hlt hll hrd
          go_wp2_with fail
          go_roundw
          case rel => exact ⟨k + 1, by have := HS.out.2; omega, by simp, by first | rfl | trivial, HS.out.1⟩
          case measure => simp [intOf]; have := HS.out.2; omega
    · obtain rfl : k = 2 := by omega
      have HA := Lib.hid (keysTo_all HK.out)
      clear hlt hk x3 HP HK
      have q1 := blk_cell HM0.out.1
      go_wp2_with fail
      clear q1
      have ho := (HX.out.2 wr HM0.out.2.2.2).mono (R' := fun e w4 => ∃ D, e = .returned (.map (some (wr.heap.size + 1))) ∧ RowKit.Hid (NormW w S (.slice a1 m1 c1) (.slice a2 m2 c2) f w4 ∧ MapOf w4 (wr.heap.size + 1) (f.rs.length + f.ws.length) D f)) (by
        rintro e w4 ⟨D, rfl, hm, hk⟩
        exact ⟨D, rfl, HM0.out.keep hk, hm⟩)
      refine ho.mono ?_
      clear ho
      rintro e w4 ⟨D, rfl, HM4⟩
      have hown := HM4.out.2.1
      have hsz : Maps.size D = (setT (f.rs ++ f.ws)).length := HM4.out.2.2.size
      have hle2 : (setT (f.rs ++ f.ws)).length ≤ 8796093022208 := by have := setT_le (f.rs ++ f.ws); rw [List.length_append] at this; have := HX.out.1; have := HE.out.1; have := HE.out.2; omega
      by_cases hmany : 64 < (setT (f.rs ++ f.ws)).length
      · have HB := Lib.hid (HN.out.2.1 HA.out hmany)
        have j4 : (64 : Int) < (setT (f.rs ++ f.ws)).length := by omega
        clear hmany hle2
        have x2 := HM4.out.1.2.1
        have q2 := blk_cell x2
        have f2 := blk_fro x2
        generalize (setT (f.rs ++ f.ws)).length = sz at *
        subst hsz
        go_wp2_with (at_len; refine wpList_len_own _ rfl _ 199 rfl 9 5 Tryz.underlying199 _ (wr.heap.size + 1) _ _ rfl hown ?_)
        have y2 := blk_two x2 (.slice none 0 0) (.slice none 0 0)
        have s2 := blk_cell y2
        have s0 := s2 0
        have s1 := s2 1
        simp at s0 s1
        have hk1 := two_nil HM4.out.1.2.2.1 (Nat.le_succ w.heap.size)
        refine bodyPost_ret (v := .tuple #[.agg #[.slice none 0 0, .slice none 0 0], .int .i64 6]) (by simp [results, Tryz.results68, go_sem, s0, s1]) rfl ?_
        rw [HB.out]
        exact ⟨_, _, _, _, _, _, rfl, hk1⟩
      · have HB := Lib.hid (HN.out.2.2 HA.out hmany)
        have j4 : ¬ (64 : Int) < (setT (f.rs ++ f.ws)).length := by omega
        clear hmany hle2
        have lb : w.heap.size + 1 < w4.heap.size := blk_lt HM4.out.1.2.1
        have HLB := Lib.hid lb
        clear lb
        have hk1 := (keys_any w4 _ _ D f 1 HM4.out.2 (by have := HX.out.1; have := HE.out.1; have := HE.out.2; omega)).mono (R' := fun e w5 => ∃ a5 n5 c5, e = .returned (.slice a5 n5 c5) ∧ RowKit.Hid (NormW w S (.slice a1 m1 c1) (.slice a2 m2 c2) f w5 ∧ MapOf w5 (wr.heap.size + 1) (f.rs.length + f.ws.length) D f ∧ OwnT w4 w5 (.slice a5 n5 c5) (setT f.rs))) (by
          rintro e w5 ⟨a5, n5, c5, rfl, ho⟩
          rw [sel_1] at ho
          exact ⟨a5, n5, c5, rfl, HM4.out.1.keep ho.2, HM4.out.2.keep ho.2 (fun x => x), ho⟩)
        generalize (setT (f.rs ++ f.ws)).length = sz at *
        subst hsz
        go_wp2_with (at_len; refine wpList_len_own _ rfl _ 199 rfl 9 5 Tryz.underlying199 _ (wr.heap.size + 1) _ _ rfl hown ?_)
        clear hown j4
        refine hk1.mono ?_
        clear hk1
        rintro e w5 ⟨a5, n5, c5, rfl, HM5⟩
        have hk2 := (keys_any w5 _ _ D f 2 HM5.out.2.1 (by have := HX.out.1; have := HE.out.1; have := HE.out.2; omega)).mono (R' := fun e w6 => ∃ a6 n6 c6, e = .returned (.slice a6 n6 c6) ∧ w6.heap[w.heap.size + 1]? = some (.cells #[.slice none 0 0, .slice none 0 0] 49 (0, 0)) ∧ RowKit.Hid (Keep No w w6 ∧ OwnT w4 w6 (.slice a5 n5 c5) (setT f.rs) ∧ OwnT w5 w6 (.slice a6 n6 c6) (setT f.ws) ∧ w4.heap.size ≤ w5.heap.size)) (by
          rintro e w6 ⟨a6, n6, c6, rfl, ho⟩
          rw [sel_2] at ho
          have h6 := HM5.out.1.keep ho.2
          exact ⟨a6, n6, c6, rfl, h6.2.1, h6.2.2.1, HM5.out.2.2.more ho.2, ho, HM5.out.2.2.2.size⟩)
        go_wp2_with fail
        refine hk2.mono ?_
        clear hk2
        rintro e w6 ⟨a6, n6, c6, rfl, x2, HM6⟩
        have q2 := blk_cell x2
        have f2 := blk_fro x2
        go_wp2_with fail
        have y2 := blk_two x2 (.slice a5 n5 c5) (.slice a6 n6 c6)
        have s2 := blk_cell y2
        have s0 := s2 0
        have s1 := s2 1
        simp at s0 s1
        refine bodyPost_ret (v := .tuple #[.agg #[.slice a5 n5 c5, .slice a6 n6 c6], .int .i64 0]) (by simp [results, Tryz.results68, go_sem, s0, s1]) rfl ?_
        rw [HB.out]
        have hk1 := two_own HM6.out.1 HM6.out.2.1 HM6.out.2.2.1 HM6.out.2.2.2 (Nat.le_succ w.heap.size) HLB.out
        exact ⟨a5, n5, c5, a6, n6, c6, rfl, ⟨hk1.1, hk1.2.1⟩, hk1.2.2⟩
end Go.Proofs.YtfgdnakfikpmpaaGreatDoor
namespace Go.Proofs.YtfgdnakfikpmpaaGreatDoor
open Go Go.RowKit Go.Deep
theorem Tryz.infoVal : (Tryz.prog.info? 47).map (fun i => (i.zero, i.size, i.bytes)) = some (some (.agg #[.int .i64 0, .int .i64 0, .string ⟨#[]⟩]), 3, 32) := by kernel_rfl
theorem wf_i64 {n : Int} (h0 : -9223372036854775808 ≤ n) (h1 : n ≤ 9223372036854775807) : (Lit.int .i64 n).wf = true := by
  simp [Lit.wf, IntKind.min, IntKind.max, IntKind.signed, IntKind.bits]; omega
theorem val_row {w : World} {S : Nat → Prop} {v : Val} (h : v.In) (ht : v.text.size ≤ 9223372036854775807) : Rd valueSh w S [.int .i64 v.kind, .int .i64 v.num, .string v.text] v := by
  have h1 := h.k0
  have h2 := h.k1
  have h3 := h.n0
  have h4 := h.n1
  refine ⟨[.int .i64 v.kind], _, rfl, ⟨rfl, ?_⟩, [.int .i64 v.num], _, rfl, ⟨rfl, ?_⟩, [.string v.text], _, rfl, ⟨rfl, by rw [maxLen_is]; exact ht⟩, rfl⟩
  · exact wf_i64 h1 h2
  · exact wf_i64 h3 h4
theorem blk_four {w : World} {b : Nat} {x y z u : Value} {t : TypeId} (h : w.heap[b]? = some (.cells #[x, y, z, u] t (0, 0))) (x' y' z' u' : Value) :
    ((((w.setCell ⟨b, 0, none⟩ x').setCell ⟨b, 1, none⟩ y').setCell ⟨b, 2, none⟩ z').setCell ⟨b, 3, none⟩ u').heap[b]? = some (.cells #[x', y', z', u'] t (0, 0)) := by
  have := blk_set (blk_set (blk_set (blk_set h 0 x') 1 y') 2 z') 3 u'
  simpa using this
end Go.Proofs.YtfgdnakfikpmpaaGreatDoor
