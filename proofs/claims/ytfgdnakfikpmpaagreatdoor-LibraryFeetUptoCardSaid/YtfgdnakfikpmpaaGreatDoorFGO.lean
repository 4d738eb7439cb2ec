/-
  Parts of what is proved for this claim; each declaration is one of the seat's texts.
-/
import Derived.Test.YtfgdnakfikpmpaaGreatDoorFGN
import Derived.Test.YtfgdnakfikpmpaaGreatDoorFFoL
set_option linter.unusedVariables false
set_option linter.unusedSimpArgs false
namespace Go.Proofs.YtfgdnakfikpmpaaGreatDoor
open Go Go.RowKit Go.Deep
def keyL (s : ByteArray) : Lit := .string s.data.toList
theorem keyL_inj {a b : ByteArray} (h : keyL a = keyL b) : a = b := text_ext (by simpa [keyL] using h)
theorem keyL_ok (s : ByteArray) : WideAt.IsKeyLit (keyL s) := trivial
theorem keyL_same (a b : ByteArray) : (keyL a).sameKey (keyL b) = decide (a = b) := by
  by_cases h : a = b
  · subst h; rw [WideAt.sameKey_self (keyL_ok a)]; simp
  · rw [Maps.sameKey_ne (fun e => h (keyL_inj e))]; simp [h]
theorem insT_len (x : ByteArray) {l : List ByteArray} (hl : Rising l) : (insT x l).length = if hasT l x = true then l.length else l.length + 1 := by
  by_cases h : x ∈ l
  · rw [if_pos ((hasT_iff l x).2 h), Rising.eq (insT_rising x hl) hl (fun y => by
      rw [insT_mem]
      constructor
      · rintro (rfl | h')
        · exact h
        · exact h'
      · exact .inr)]
  · rw [if_neg (fun hh => h ((hasT_iff l x).1 hh))]
    clear hl
    induction l with
    | nil => rfl
    | cons y l ih =>
      have h1 : x ∉ l := fun hh => h (List.mem_cons_of_mem _ hh)
      have h2 : ¬ y = x := fun hh => h (by rw [hh]; exact List.mem_cons_self)
      unfold insT
      split
      · simp [ih h1]
      · rfl
theorem setT_len_add {a b : List ByteArray} {x : ByteArray} (h : ∀ y, y ∈ b ↔ y ∈ a ∨ y = x) : (setT b).length = if hasT a x = true then (setT a).length else (setT a).length + 1 := by
  have e : setT b = insT x (setT a) := Rising.eq (setT_rising b) (insT_rising x (setT_rising a)) (fun y => by rw [setT_mem, insT_mem, setT_mem, h]; exact or_comm)
  rw [e, insT_len x (setT_rising a)]
  have : hasT (setT a) x = hasT a x := by rw [Bool.eq_iff_iff, hasT_iff, hasT_iff, setT_mem]
  rw [this]
abbrev DU := DataW Unit
structure SetD (D : DU) (f : Fp) : Prop where
  tidy : Maps.Tidy D
  has : ∀ s, Maps.has D (keyL s) = hasT (f.rs ++ f.ws) s
  use : ∀ s, D.atKey (keyL s) (.lit (.int .u8 0)) = .lit (.int .u8 (f.use s))
  size : Maps.size D = (setT (f.rs ++ f.ws)).length
theorem SetD.empty : SetD (.map []) (mkFp [] []) :=
  ⟨Maps.tidy_empty, fun s => rfl, fun s => rfl, rfl⟩
theorem SetD.put {D : DU} {f f' : Fp} {x : ByteArray} (h : SetD D f) (hm : ∀ y, y ∈ f'.rs ++ f'.ws ↔ y ∈ f.rs ++ f.ws ∨ y = x) (hu : ∀ s, s ≠ x → f'.use s = f.use s) :
    SetD (D.put (keyL x) (.lit (.int .u8 (f'.use x)))) f' := by
  refine ⟨h.tidy.put (keyL_ok x) _, fun s => ?_, fun s => ?_, ?_⟩
  · by_cases e : s = x
    · subst e
      rw [Maps.has_put_same h.tidy.isMap (keyL_ok s)]
      exact ((hasT_iff _ _).2 ((hm s).2 (.inr rfl))).symm
    · rw [Maps.has_put_other (fun hh => e (keyL_inj hh)), h.has, Bool.eq_iff_iff, hasT_iff, hasT_iff, hm]
      simp [e]
  · by_cases e : s = x
    · subst e
      rw [Maps.atKey_put_same h.tidy.isMap (keyL_ok s)]
    · rw [Maps.atKey_put_other (fun hh => e (keyL_inj hh)), h.use, hu s e]
  · rw [Maps.size_put h.tidy, h.has, setT_len_add hm, h.size]
theorem use_range (f : Fp) (s : ByteArray) : 0 ≤ f.use s ∧ f.use s ≤ 3 := by
  have := f.use_cases s
  exact ⟨this.2.2.1, this.2.2.2⟩
theorem hasT_snoc (l : List ByteArray) (x s : ByteArray) : hasT (l ++ [x]) s = (hasT l s || decide (x = s)) := by simp [hasT]
theorem or_1 : ∀ c : Fin 4, bits BinOp.or .u8 ((c.val : Nat) : Int) 1 = ((c.val ||| 1 : Nat) : Int) := by decide
theorem or_2 : ∀ c : Fin 4, bits BinOp.or .u8 ((c.val : Nat) : Int) 2 = ((c.val ||| 2 : Nat) : Int) := by decide
def useN (p q : Bool) : Int := (if p then 1 else 0) + (if q then 2 else 0)
theorem use_is (f : Fp) (s : ByteArray) : f.use s = useN (hasT f.rs s) (hasT f.ws s) := rfl
theorem use_mk (l m : List ByteArray) (s : ByteArray) : (mkFp l m).use s = useN (hasT l s) (hasT m s) := rfl
theorem use_or1 (l m : List ByteArray) (x : ByteArray) : bits BinOp.or .u8 ((mkFp l m).use x) 1 = (mkFp (l ++ [x]) m).use x := by
  rw [use_mk, use_mk, show hasT (l ++ [x]) x = true from by rw [hasT_snoc]; simp]
  cases hasT l x <;> cases hasT m x <;> first | exact or_1 0 | exact or_1 1 | exact or_1 2 | exact or_1 3
theorem use_or2 (l m : List ByteArray) (x : ByteArray) : bits BinOp.or .u8 ((mkFp l m).use x) 2 = (mkFp l (m ++ [x])).use x := by
  rw [use_mk, use_mk, show hasT (m ++ [x]) x = true from by rw [hasT_snoc]; simp]
  cases hasT l x <;> cases hasT m x <;> first | exact or_2 0 | exact or_2 1 | exact or_2 2 | exact or_2 3
theorem SetD.read {D : DU} {l m : List ByteArray} {x : ByteArray} (h : SetD D (mkFp l m)) : SetD (D.put (keyL x) (.lit (.int .u8 (bits BinOp.or .u8 ((mkFp l m).use x) 1)))) (mkFp (l ++ [x]) m) := by
  rw [use_or1]
  refine h.put (fun y => ?_) (fun s hs => ?_)
  · simp [Fp.rs, Fp.ws, mkFp, or_assoc, or_comm, or_left_comm]
  · rw [use_mk, use_mk, show hasT (l ++ [x]) s = hasT l s from by rw [hasT_snoc]; simp [Ne.symm hs]]
theorem SetD.write {D : DU} {l m : List ByteArray} {x : ByteArray} (h : SetD D (mkFp l m)) : SetD (D.put (keyL x) (.lit (.int .u8 (bits BinOp.or .u8 ((mkFp l m).use x) 2)))) (mkFp l (m ++ [x])) := by
  rw [use_or2]
  refine h.put (fun y => ?_) (fun s hs => ?_)
  · simp [Fp.rs, Fp.ws, mkFp, or_assoc, or_comm, or_left_comm]
  · rw [use_mk, use_mk, show hasT (m ++ [x]) s = hasT m s from by rw [hasT_snoc]; simp [Ne.symm hs]]
def useB (f : Fp) (u : Int) (s : ByteArray) : Bool := bits BinOp.and .u8 (f.use s) u != 0
def Fp.sel (f : Fp) (u : Int) : List ByteArray := (setT (f.rs ++ f.ws)).filter (useB f u)
theorem and_1 : ∀ c : Fin 4, (bits BinOp.and .u8 ((c.val : Nat) : Int) 1 != 0) = decide (c.val % 2 = 1) := by decide
theorem and_2 : ∀ c : Fin 4, (bits BinOp.and .u8 ((c.val : Nat) : Int) 2 != 0) = decide (2 ≤ c.val) := by decide
theorem useB_1 (f : Fp) (s : ByteArray) : useB f 1 s = hasT f.rs s := by
  unfold useB
  rw [use_is]
  cases hasT f.rs s <;> cases hasT f.ws s <;> first | exact and_1 0 | exact and_1 1 | exact and_1 2 | exact and_1 3
theorem useB_2 (f : Fp) (s : ByteArray) : useB f 2 s = hasT f.ws s := by
  unfold useB
  rw [use_is]
  cases hasT f.rs s <;> cases hasT f.ws s <;> first | exact and_2 0 | exact and_2 1 | exact and_2 2 | exact and_2 3
theorem sel_1 (f : Fp) : f.sel 1 = setT f.rs := Rising.eq ((setT_rising _).filter _) (setT_rising _) (fun y => by
  rw [Fp.sel, List.mem_filter, setT_mem, setT_mem, useB_1, hasT_iff, List.mem_append]
  exact ⟨fun h => h.2, fun h => ⟨.inl h, h⟩⟩)
theorem sel_2 (f : Fp) : f.sel 2 = setT f.ws := Rising.eq ((setT_rising _).filter _) (setT_rising _) (fun y => by
  rw [Fp.sel, List.mem_filter, setT_mem, setT_mem, useB_2, hasT_iff, List.mem_append]
  exact ⟨fun h => h.2, fun h => ⟨.inr h, h⟩⟩)
structure Coll (f : Fp) (u : Int) (D : DU) (left : Lit → Bool) (ks : List ByteArray) : Prop where
  nodup : ks.Nodup
  mem : ∀ s, s ∈ ks ↔ Maps.has D (keyL s) = true ∧ left (keyL s) = false ∧ useB f u s = true
theorem Coll.start (f : Fp) (u : Int) (D : DU) : Coll f u D (Maps.has D) [] := ⟨List.nodup_nil, fun s => by simp; intro h1 h2; rw [h1] at h2; cases h2⟩
theorem Coll.step {f : Fp} {u : Int} {D : DU} {left : Lit → Bool} {ks : List ByteArray} (h : Coll f u D left ks) {x : ByteArray} (hl : left (keyL x) = true) (hd : Maps.has D (keyL x) = true) :
    Coll f u D (fun z => left z && !z.sameKey (keyL x)) (if useB f u x then ks ++ [x] else ks) := by
  have hx : x ∉ ks := fun hh => by have := ((h.mem x).1 hh).2.1; rw [hl] at this; cases this
  have key : ∀ s, (Maps.has D (keyL s) = true ∧ (left (keyL s) && !(keyL s).sameKey (keyL x)) = false ∧ useB f u s = true) ↔ s ∈ ks ∨ (s = x ∧ useB f u x = true) := fun s => by
    rw [keyL_same, h.mem]
    by_cases e : s = x
    · subst e; simp [hl, hd]
    · simp [e]
  by_cases hu : useB f u x = true
  · rw [if_pos hu]
    refine ⟨?_, fun s => ?_⟩
    · rw [List.nodup_append]
      exact ⟨h.nodup, by simp, fun a ha b hb => by simp at hb; subst hb; exact fun e => hx (e ▸ ha)⟩
    · rw [key]; simp [hu]
  · rw [if_neg hu]
    refine ⟨h.nodup, fun s => ?_⟩
    rw [key]; simp [hu]
theorem Coll.done {f : Fp} {u : Int} {D : DU} {left : Lit → Bool} {ks : List ByteArray} (h : Coll f u D left ks) (hs : SetD D f) (hl : ∀ k, left k = false) : ks.Nodup ∧ ∀ s, s ∈ ks ↔ s ∈ f.sel u :=
  ⟨h.nodup, fun s => by
    rw [h.mem, hl, hs.has, Fp.sel, List.mem_filter, setT_mem, hasT_iff]
    simp⟩
theorem sorted_rising {ks zs : List ByteArray} (hn : ks.Nodup) (hp : (zs.map fun s => s.data.toList).Perm (ks.map fun s => s.data.toList)) (hs : (zs.map fun s => s.data.toList).Pairwise fun x y => x ≤ y) : Rising zs := by
  have hn' : (zs.map fun s => s.data.toList).Nodup := by
    rw [hp.nodup_iff]
    unfold List.Nodup
    rw [List.pairwise_map]
    exact List.Pairwise.imp (fun h e => h (text_ext e)) hn
  unfold Rising
  unfold List.Nodup at hn'
  rw [List.pairwise_map] at hs hn'
  refine List.Pairwise.imp₂ (fun a b h1 h2 => ?_) hs hn'
  rw [ltT_iff]
  rcases List.le_iff_lt_or_eq.1 h1 with h | h
  · exact h
  · exact absurd h h2
end Go.Proofs.YtfgdnakfikpmpaaGreatDoor
namespace Go.Proofs.YtfgdnakfikpmpaaGreatDoor
open Go Go.RowKit Go.Deep
theorem strs_get {w : World} {S : Nat → Prop} {a : Option Addr} {n c : Nat} {l : List ByteArray} (h : Rd (.slice .str) w S [.slice a n c] l) (i : Nat) (hi : i < l.length) :
    ∃ b off, a = some ⟨b, off, none⟩ ∧ w.cell? ⟨b, off + i, none⟩ = some (.string l[i]) ∧ l[i].size ≤ 9223372036854775807 := by
  obtain ⟨a', c', e, -, -, -, h4⟩ := strs_at h
  simp only [Value.slice.injEq] at e
  obtain ⟨rfl, -, rfl⟩ := e
  obtain ⟨b, off, ha, -, -, hc, -, hs⟩ := h4 i hi
  rw [maxLen_is] at hs
  exact ⟨b, off, ha, hc, hs⟩
def OwnL (lo : Nat) (w : World) (v : Value) (l : List ByteArray) : Prop := Own .str 9 w (Fr lo w.heap.size) v l
theorem OwnL.app {lo : Nat} {w : World} {v : Value} {l : List ByteArray} (h : OwnL lo w v l) (hlo : lo ≤ w.heap.size) (x : ByteArray) (h0 : x.size ≤ maxLen) (hl : (l.length + 1) * 16 ≤ 140737488355328) :
    ∃ a c w', (Builtin.append_ #[23, 23] 23 #[v, .slice (some ⟨w.heap.size, 0, none⟩) 1 1]).run Tryz.prog (w.alloc (.cells #[.string x] 9)) = .ok (.slice a (l.length + 1) c) w' ∧ OwnL lo w' (.slice a (l.length + 1) c) (l ++ [x]) ∧ Keep (Fr lo w.heap.size) w w' := by
  obtain ⟨i0, hi, hz0, hz1, hz2⟩ := info_parts Tryz.infoText
  have h1 : Own .str 9 (w.alloc (.cells #[.string x] 9)) (Fr lo w.heap.size) v l := Own.agree h ((Keep.refl No w).alloc _).agreeNo
  obtain ⟨a, c, w', hr, ho, hk, hs⟩ := Own.append (P := Tryz.prog) (T := No) h1 23 23 i0 _ 16 Tryz.underlying23 hi hz0 hz1 hz2 rfl (blk_new w _) (x := x) ⟨by simp, h0⟩ (fun k _ x => x) (by omega) hl 1
  have hsz := hk.size
  simp only [World.size_alloc] at hsz
  refine ⟨a, c, w', hr, Own.mono ho.live fun k hk' => ?_, ((Keep.refl _ w).alloc _).then hk fun i _ hi => hi⟩
  obtain ⟨h1 | h1 | h1, h2⟩ := hk'
  · exact ⟨h1.1, h2⟩
  · exact h1.elim
  · simp only [World.size_alloc] at h1; exact ⟨by omega, h2⟩
theorem OwnL.keep {lo : Nat} {w w' : World} {v : Value} {l : List ByteArray} (h : OwnL lo w v l) {M : Nat → Prop} (hk : Keep M w w') (hM : ∀ i, lo ≤ i → ¬ M i) : OwnL lo w' v l :=
  Own.mono (Own.agree h (hk.agree fun i _ hi hm => hM i hi.1 hm)) fun k hk' => ⟨hk'.1, Nat.lt_of_lt_of_le hk'.2 hk.size⟩
theorem OwnL.open' {lo : Nat} {w : World} {a : Option Addr} {n c : Nat} {zs : List ByteArray} (h : OwnL lo w (.slice a n c) zs) (hne : zs ≠ []) :
    ∃ b off cur, a = some ⟨b, off, none⟩ ∧ Fr lo w.heap.size b ∧ w.heap[b]? = some (.cells cur 9 (0, 0)) ∧ n = zs.length ∧ n ≤ c ∧ c ≤ maxLen ∧ off + c ≤ cur.size ∧ (cur.toList.drop off).take zs.length = zs.map Value.string := by
  obtain ⟨a', c', e, -⟩ := Own.form h
  obtain ⟨g, rows, T, h1, h2, h3, h4, h5⟩ := h
  have hrow : rows.flatten = zs.map Value.string := by
    have : rows = zs.map fun x => [Value.string x] := by
      apply List.ext_getElem (by simp [h2])
      intro i hi hi'
      rw [List.getElem_map]
      exact (h3 i hi (by simpa using hi')).1
    rw [this, flatT_flatten]
  simp only [Value.slice.injEq] at e
  obtain ⟨-, hn, -⟩ := e
  rcases h1.2 with ⟨-, e, -⟩ | ⟨b, off, cap, cur, hg, hv, hb, hl, hm, hs, ht⟩
  · subst e
    have : zs.length = 0 := by simpa using h2.symm
    exact absurd (List.length_eq_zero_iff.1 this) hne
  · simp only [Value.slice.injEq] at hv
    obtain ⟨rfl, e2, rfl⟩ := hv
    simp only [Sh.size, Nat.mul_one] at hs ht
    refine ⟨b, off, cur, rfl, (h4 b hg).1, hb, hn, by omega, hm, hs, ?_⟩
    rw [← h2, ht, hrow]
theorem OwnL.shut {lo : Nat} {w : World} {b off n c : Nat} {zs : List ByteArray} {cur : Array Value} (hf : Fr lo w.heap.size b) (hb : w.heap[b]? = some (.cells cur 9 (0, 0))) (hn : n = zs.length) (hc : n ≤ c) (hm : c ≤ maxLen) (hs : off + c ≤ cur.size)
    (ht : (cur.toList.drop off).take zs.length = zs.map Value.string) (hA : AllT zs) : OwnL lo w (.slice (some ⟨b, off, none⟩) n c) zs := by
  refine ⟨some b, zs.map fun x => [Value.string x], No, ⟨fun r hr => by obtain ⟨y, -, rfl⟩ := List.mem_map.1 hr; rfl, .inr ⟨b, off, c, cur, rfl, by rw [List.length_map, hn], hb, by rw [List.length_map]; omega, hm, by simpa [Sh.size] using hs, ?_⟩⟩, by simp, fun i hi hi' => flatT_rows zs hA i hi hi', fun b' hb' => by cases hb'; exact ⟨hf, fun x => x⟩, fun _ x => x.elim⟩
  rw [List.length_map, flatT_flatten]; simpa [Sh.size] using ht
theorem OwnL.all {lo : Nat} {w : World} {v : Value} {zs : List ByteArray} (h : OwnL lo w v zs) : AllT zs := texts_all (Own.rd h)
open Go.Sort in
theorem OwnL.turned {lo : Nat} {w : World} {b off n c : Nat} {ks zs : List ByteArray} (h : OwnL lo w (.slice (some ⟨b, off, none⟩) n c) ks) (hne : ks ≠ []) (hl : zs.length = ks.length) (hA : AllT zs) (N : Nat) (os : Array Obj) (d : Array (List UInt8)) (hd : d = (zs.map fun s => s.data.toList).toArray) :
    OwnL lo (grow (putRow encStr (Sort.ahead w N) b off d) os) (.slice (some ⟨b, off, none⟩) n c) zs ∧ Keep (One b) w (grow (putRow encStr (Sort.ahead w N) b off d) os) := by
  subst hd
  obtain ⟨b', off', cur, e, hf, hb, hn, hc, hm, hs, ht⟩ := h.open' hne
  simp only [Option.some.injEq, Addr.mk.injEq, and_true] at e
  obtain ⟨rfl, rfl⟩ := e
  have hbl := blk_lt hb
  have hb' : (grow (putRow encStr (Sort.ahead w N) b off (zs.map fun s => s.data.toList).toArray) os).heap[b]? = some (.cells (putCells encStr off (zs.map fun s => s.data.toList).toArray cur) 9 (0, 0)) := by
    show (((Sort.ahead w N).heap.modify b _) ++ os)[b]? = _
    rw [Array.getElem?_append_left (by simpa using hbl), Array.getElem?_modify, if_pos rfl]
    show Option.map _ w.heap[b]? = _
    rw [hb]; rfl
  have hsz : w.heap.size ≤ (grow (putRow encStr (Sort.ahead w N) b off (zs.map fun s => s.data.toList).toArray) os).heap.size := by simp [grow, putRow, mapBlock]
  refine ⟨OwnL.shut ⟨hf.1, Nat.lt_of_lt_of_le hf.2 hsz⟩ hb' (by omega) hc hm (by simpa [putCells] using hs) ?_ hA, ⟨rfl, rfl, rfl, hsz, fun k hk hn => ?_⟩⟩
  · apply List.ext_getElem?
    intro i
    rw [List.getElem?_take]
    by_cases hi : i < zs.length
    · rw [if_pos hi, List.getElem?_drop, Array.getElem?_toList, putCells, Array.getElem?_mapIdx, Array.getElem?_eq_getElem (by omega : off + i < cur.size), Option.map_some, if_pos ⟨by omega, by simp; omega⟩, Nat.add_sub_cancel_left, List.getElem?_map, List.getElem?_eq_getElem hi]
      simp [encStr, hi]
    · rw [if_neg hi, List.getElem?_eq_none (by simpa using hi)]
  · have hn' : ¬ b = k := fun e => hn e.symm
    show (((Sort.ahead w N).heap.modify b _) ++ os)[k]? = _
    rw [Array.getElem?_append_left (by simpa using hk), Array.getElem?_modify, if_neg hn']
    rfl
end Go.Proofs.YtfgdnakfikpmpaaGreatDoor
