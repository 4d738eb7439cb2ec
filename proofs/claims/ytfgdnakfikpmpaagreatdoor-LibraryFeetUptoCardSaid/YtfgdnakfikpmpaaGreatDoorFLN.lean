/-
  Parts of what is proved for this claim; each declaration is one of the seat's texts.
-/
import Derived.Test.YtfgdnakfikpmpaaGreatDoorFStI
import Derived.Test.YtfgdnakfikpmpaaGreatDoorFLD
set_option linter.unusedVariables false
set_option linter.unusedSimpArgs false
namespace Go.Proofs.YtfgdnakfikpmpaaGreatDoor
open Go Go.RowKit Go.Deep Go.Maps Go.Sort Go.Shelf
theorem Tryz.sortsN (m : Nat) : AnyZ.SortsIn Tryz.prog Tryz.laysSorted_ren Fence.wide m :=
  ⟨fun blk off cap ss W hH hblk hsz => callsIn_wide.2 (AnyM.slices_Sort_string Tryz.laysSort blk off cap ss W hH hblk hsz),
   fun p cap W => callsIn_wide.2 (AnyM.slices_Sort_string_none Tryz.laysSort p cap W)⟩
theorem mapKeys_any (mb : Option Nat) (W : World) : CallsIn Fence.wide 5 Tryz.prog 83 #[.map mb] W fun e w' => e = .returned (.func (.func 127) #[] #[.pointer (some ⟨W.heap.size, 0, none⟩)]) ∧ w' = W.alloc (.cells #[.map mb] 99) :=
  AnyZ.keys_in Tryz.laysKeys Fence.wide 5 trivial rfl mb W
set_option maxHeartbeats 1000000 in
theorem sortedKeys_any {H : Type} (b nn : Nat) (D0 : DataW H) (R : Value → Option (DataW H × List MemPlace)) (w : World) (hown : w.ownsMap Tryz.prog 9 R b nn D0) (hmax : Maps.size D0 ≤ maxLen) (hbytes : Maps.size D0 * 16 ≤ 140737488355328) :
    CallsIn Fence.wide 5 Tryz.prog 82 #[.func (.func 127) #[] #[.pointer (some ⟨w.heap.size, 0, none⟩)]] (w.alloc (.cells #[.map (some b)] 99)) fun e w' => ∃ (v : Value) (ss : List (List UInt8)), e = .returned v ∧ ss.Perm (strKeys D0) ∧
      w'.ownsRow (w.alloc (.cells #[.map (some b)] 99)).heap.size 9 1 v ss.length ((ss.mergeSort (fun x y => decide (x ≤ y))).map encStr) ∧ (v = .slice none 0 0 ↔ ss = []) ∧ Below (w.alloc (.cells #[.map (some b)] 99)).heap.size (w.alloc (.cells #[.map (some b)] 99)) w' := by
  have hbl := hown.lt
  have hseq : SeqGives Fence.wide 2 Tryz.prog 127 #[.pointer (some ⟨w.heap.size, 0, none⟩)] encStr (fun ss => ss.Perm (strKeys D0)) (Maps.size D0) (w.alloc (.cells #[.map (some b)] 99)) :=
    AnyZ.keys_gives (ρ := Tryz.laysKeys_ren) { Tryz.laysKeys with } Fence.wide _ trivial rfl (by omega) w.heap.size b nn D0 _ (by simp) (by simp) (by
      obtain ⟨es, clock, hb, Ft, hs, hD⟩ := hown
      exact ⟨es, clock, (Below.heap_alloc _ _ b hbl).trans hb, Ft, hs, hD⟩)
  exact AnyZ.sorted_in Tryz.laysSorted Fence.wide 5 trivial trivial trivial trivial rfl (by omega) (Tryz.sortsN _) (enters_of Tryz.func126 (by kernel_rfl) rfl) 127 #[.pointer (some ⟨w.heap.size, 0, none⟩)] trivial (enters_of Tryz.func127 (by kernel_rfl) rfl) _ _ hmax hbytes _ hseq
theorem names_sorted {w : World} {b nn : Nat} {D : DVp} {L : List Prc} (hown : w.ownsMap Tryz.prog 9 heldP b nn D) (hall : ∀ n : ByteArray, Maps.has D (keyN n) = (findP L n).isSome) {ss : List (List UInt8)} (hp : ss.Perm (strKeys D)) :
    (ss.mergeSort fun x y => decide (x ≤ y)) = (namesL L).map (·.data.toList) ∧ ss.length = (namesL L).length := by
  obtain ⟨es, hD, hpw, _⟩ := hown.entries (Maps.string_keyed Tryz.underlying9)
  obtain ⟨es', hD', hko⟩ := hown.keysOf
  obtain rfl : es = es' := by rw [hD] at hD'; simpa using hD'
  have hks : ∀ p ∈ es, ∃ x, p.1 = .string x := fun p hp => by obtain ⟨v, hv⟩ := hko p hp; obtain ⟨x, _, hx, _⟩ := Maps.keyOf_str Tryz.underlying9 hv; exact ⟨x, hx⟩
  have hnd : ((namesL L).map (·.data.toList)).Nodup := by
    unfold List.Nodup
    rw [List.pairwise_map]
    refine (setT_rising _).imp ?_
    intro a b h e
    have := text_ext e
    subst this
    exact ltT_irrefl a h
  have hpn : ((namesL L).map (·.data.toList)).Perm (strKeys D) := by
    subst hD
    refine perm_strKeys hpw hks hnd fun x => ?_
    have h1 := hall ⟨x.toArray⟩
    have hkx : keyN ⟨x.toArray⟩ = .string x := by simp [keyN]
    rw [hkx] at h1
    rw [h1, List.mem_map]
    constructor
    · rintro ⟨s, hs, rfl⟩
      have hs : s ∈ L.map Prc.name := (setT_mem _ _).1 hs
      have he : (⟨s.data.toList.toArray⟩ : ByteArray) = s := by apply ByteArray.ext; simp
      rw [he]
      cases hf : findP L s with
      | some p => rfl
      | none => exact absurd hs (findP_none.1 hf)
    · intro h
      refine ⟨⟨x.toArray⟩, (setT_mem _ _).2 ?_, by simp⟩
      refine Classical.byContradiction fun hn => ?_
      rw [findP_none.2 hn] at h
      cases h
  refine ⟨?_, by rw [(hp.trans hpn.symm).length_eq, List.length_map]⟩
  rw [show (fun x y : List UInt8 => decide (x ≤ y)) = leB from rfl, mergeSort_of_perm (hp.trans hpn.symm)]
  refine List.mergeSort_of_pairwise ?_
  rw [List.pairwise_map]
  refine (setT_rising _).imp ?_
  intro a b h
  simp only [leB, decide_eq_true_eq]
  exact List.le_of_lt ((ltT_iff a b).1 h)
def RowS (w : World) (base : Nat) (a : Option Addr) (c : Nat) (l : List ByteArray) : Prop := w.ownsRow base 9 1 (.slice a l.length c) l.length (l.map fun s => encStr s.data.toList)
def GivesNms (w : World) (l : List ByteArray) (e : Ending) (w' : World) : Prop := ∃ a c, e = .returned (.slice a l.length c) ∧ RowKit.Hid (Keep No w w' ∧ Rd (.slice .str) w' (Fr w.heap.size w'.heap.size) [.slice a l.length c] l ∧ RowS w' w.heap.size a c l)
theorem rd_ownsRow {w : World} {base n : Nat} {v : Value} {l : List ByteArray} (h : w.ownsRow base 9 1 v n (l.map fun s => encStr s.data.toList)) (hn : n = l.length) (hl : ∀ s ∈ l, s.size ≤ 9223372036854775807) : ∃ a c, v = .slice a l.length c ∧ Rd (.slice .str) w (Fr base w.heap.size) [.slice a l.length c] l := by
  obtain ⟨h0, ⟨rfl, e⟩ | ⟨g, cap, cur, rfl, hb, hg, hc, hm, hs, ht⟩⟩ := h
  · have : l = [] := List.length_eq_zero_iff.1 (by omega)
    subst this
    exact ⟨none, 0, rfl, rd_nilS _ _⟩
  · subst hn
    refine ⟨some ⟨g, 0, none⟩, cap, rfl, some ⟨g, 0, none⟩, cap, rfl, hc, hm, (fun e => by cases e), fun i hi => ⟨g, 0, [.string l[i]], rfl, blk_lt hg, ⟨hb, blk_lt hg⟩, rfl, fun j hj => ?_, rfl, by rw [maxLen_is]; exact hl _ (List.getElem_mem hi)⟩⟩
    have hj0 : j = 0 := by simp at hj; omega
    subst hj0
    refine ⟨?_, by simpa using blk_fro hg _⟩
    have h1 := blk_cell hg (0 + i * 1 + 0)
    simp only [Nat.zero_add, Nat.mul_one, Nat.add_zero] at h1
    have h2 := congrArg (fun l => l[i]?) ht
    simp only [List.getElem?_take, Nat.mul_one, if_pos hi, List.getElem?_map, List.getElem?_eq_getElem hi, Option.map_some, Array.getElem?_toList] at h2
    simp only [Sh.size, Nat.zero_add, Nat.mul_one, Nat.add_zero, List.getElem_cons_zero]
    rw [h1, h2]
    simp [encStr]
theorem names_le {w : World} {S : Nat → Prop} {B m : Nat} {L : List Prc} (h : LibAt w S B m L) : ∀ s ∈ namesL L, s.size ≤ 16 := fun s hs => by
  have hs : s ∈ L.map Prc.name := (setT_mem _ _).1 hs
  obtain ⟨p, hp, rfl⟩ := List.mem_map.1 hs
  have := (h.home p hp).ok.name
  unfold nameOk at this
  simp only [Bool.and_eq_true, decide_eq_true_eq] at this
  omega
set_option maxRecDepth 10000 in
set_option maxHeartbeats 4000000 in
theorem libNames_any {w : World} {S : Nat → Prop} {B m : Nat} {L : List Prc} (h : LibAt w S B m L) : Calls Tryz.prog 32 #[.pointer (some ⟨B, 0, none⟩)] w (GivesNms w (namesL L)) := by
  have hle := names_le h
  have q0 := blk_cell h.blk
  obtain ⟨D, hown, -, hml, hsz, hall⟩ := h.map
  have h64 := h.size
  have hhas : ∀ n : ByteArray, Maps.has D (keyN n) = (findP L n).isSome := fun n => by
    have := hall n
    cases hf : findP L n with
    | none => rw [hf] at this; exact this.1
    | some p => rw [hf] at this; exact this.1
  have hsk := sortedKeys_any m L.length D heldP w hown (by rw [hsz, maxLen_is]; omega) (by rw [hsz]; omega)
  have HP := Lib.hid (fun ss hp => names_sorted hown hhas (ss := ss) hp)
  have HLE := Lib.hid hle
  clear hle hown hml hsz hall h64 hhas h
  refine (callsIn_wide (n := 6)).1 ?_
  have hfK : Fence.wide.fn 83 := trivial
  have hfS : Fence.wide.fn 82 := trivial
  refine callsIn_of_wp Tryz.func32 rfl trivial ?_ rfl
  simp only [Tryz.ntmps32, List.size_toArray, List.length_cons, List.length_nil, Nat.reduceAdd, Nat.reduceSub, Array.replicate_succ, Array.replicate_zero, List.push_toArray, List.append_toArray, List.nil_append, List.cons_append]
  gi_wp2_with (first
    | (gi_at_call 83; refine (mapKeys_any _ _).mono ?_; rintro e w' ⟨rfl, rfl⟩)
    | (gi_at_call 82; refine hsk.mono ?_; clear hsk; rintro e w' ⟨v, ss, rfl, hS, hrow, hnil, hb⟩))
  go_ret
  obtain ⟨e1, e2⟩ := HP.out ss hS
  rw [e1, List.map_map] at hrow
  obtain ⟨a, c, rfl, hrd⟩ := rd_ownsRow hrow e2 (fun s hs => by have := HLE.out s hs; omega)
  refine ⟨a, c, rfl, ((Keep.refl No w).alloc _).thenUp (by simp) (Keep.ofB hb), hrd.mono _ fun k _ hk => ⟨by have := hk.1; simp only [World.size_alloc] at this; omega, hk.2⟩, ?_⟩
  unfold RowS
  rw [e2] at hrow
  exact ownsRow_base_a hrow (by simp)
end Go.Proofs.YtfgdnakfikpmpaaGreatDoor
