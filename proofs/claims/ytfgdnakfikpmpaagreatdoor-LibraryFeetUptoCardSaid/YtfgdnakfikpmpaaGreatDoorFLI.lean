/-
  Parts of what is proved for this claim; each declaration is one of the seat's texts.
-/
import Derived.Test.YtfgdnakfikpmpaaGreatDoorFLE
import Derived.Test.YtfgdnakfikpmpaaGreatDoorFLF
import Derived.Test.YtfgdnakfikpmpaaGreatDoorFLN
import Derived.Test.YtfgdnakfikpmpaaGreatDoorFLJ
set_option linter.unusedVariables false
set_option linter.unusedSimpArgs false
namespace Go.Proofs.YtfgdnakfikpmpaaGreatDoor
open Go Go.RowKit Go.Deep
theorem look_libN {w : World} {S : Nat → Prop} {m : Nat} {L : List Prc} (h : LibMap w S m L) (n : ByteArray) (hn : n.size ≤ 9223372036854775806) {p : Prc} (hf : findP L n = some p) :
    ∃ cs : Array Value, (∀ W, Keep No w W → (Instr.lookup 99 (.map (some m)) (.string n) false).run Tryz.prog W = .ok (.agg cs) W) ∧ Rd procSh w S cs.toList p := by
  obtain ⟨D, hown, hS, hm, hsz, hall⟩ := h
  have hall := hall n
  rw [hf] at hall
  obtain ⟨a, cs, b, c⟩ := hall
  refine ⟨cs, fun W hW => ?_, c.mono procSh fun k _ hs => hs.1⟩
  obtain ⟨es, clock, h1, h1'⟩ := hown
  obtain ⟨v, ps, hrun, hv⟩ := World.ownsMap.lookup (R := heldP) ⟨es, clock, (hW.block m (blk_lt h1) (fun x => x)).trans h1, h1'⟩ (Maps.string_keyed Tryz.underlying9) Tryz.underlying99 (Tryz.zeroProc W) (zd := .held zeroP) rfl (WideMaps.keyOf_string_mk Tryz.underlying9 (by rw [maxLen_is]; omega : n.size ≤ maxLen))
  change heldP v = some (D.atKey (keyN n) _, ps) at hv
  rw [b] at hv
  simp only [heldP, Option.some.injEq, Prod.mk.injEq, DataW.held.injEq] at hv
  rw [hv.1] at hrun
  exact hrun
theorem RowS.keep {w w' : World} {base : Nat} {a : Option Addr} {c : Nat} {l : List ByteArray} (h : RowS w base a c l) (hk : Keep No w w') : RowS w' base a c l := by
  obtain ⟨h0, h1 | ⟨g, cap, cur, h1, h2, h3, h4⟩⟩ := h
  · exact ⟨h0, .inl h1⟩
  · exact ⟨h0, .inr ⟨g, cap, cur, h1, h2, hk.blk h3 (fun x => x), h4⟩⟩
theorem RowS.others {w w' : World} {base B : Nat} {a : Option Addr} {c : Nat} {l : List ByteArray} (h : RowS w base a c l) (hB : B < base) (ho : Lib.OthersKept 5 (some B) w w') : RowS w' base a c l := by
  obtain ⟨h0, h1 | ⟨g, cap, cur, h1, h2, h3, h4⟩⟩ := h
  · exact ⟨h0, .inl h1⟩
  · exact ⟨h0, .inr ⟨g, cap, cur, h1, h2, others_blk ho h3 (by omega) (by decide), h4⟩⟩
theorem RowS.get {w : World} {base : Nat} {a : Option Addr} {c : Nat} {l : List ByteArray} (h : RowS w base a c l) (i : Nat) (hi : i < l.length) : ∃ b, a = some ⟨b, 0, none⟩ ∧ w.cell? ⟨b, i, none⟩ = some (.string l[i]) := by
  obtain ⟨h0, ⟨h1, h2⟩ | ⟨g, cap, cur, h1, h2, h3, h4, h5, h6, h7⟩⟩ := h
  · omega
  · simp only [Value.slice.injEq] at h1
    refine ⟨g, h1.1, ?_⟩
    rw [blk_cell h3 i]
    have h8 := congrArg (fun l => l[i]?) h7
    simp only [List.getElem?_take, Nat.mul_one, if_pos hi, List.getElem?_map, List.getElem?_eq_getElem hi, Option.map_some, Array.getElem?_toList] at h8
    rw [h8]
structure TxW (w : World) (B : Nat) (a : Option Addr) (c : Nat) (names : List ByteArray) (acc : List UInt8) (W : World) : Prop where
  bld : Bld B B acc W
  keep : Keep No w W
  row : RowS W (B + 1) a c names
structure TxI (w : World) (B : Nat) (a : Option Addr) (c : Nat) (names : List ByteArray) (acc : List UInt8) (T : Nat) (cs : Array Value) (W : World) : Prop where
  bld : Bld B B acc W
  keep : Keep No w W
  row : RowS W (B + 1) a c names
  blk : W.heap[T]? = some (.cells cs 29 (0, 0))
theorem TxI.on {w : World} {B : Nat} {a : Option Addr} {c : Nat} {names : List ByteArray} {acc : List UInt8} {T : Nat} {cs : Array Value} {W W' : World} (h : TxI w B a c names acc T cs W) (hk : Keep No W W') : TxI w B a c names acc T cs W' :=
  ⟨h.bld.keep hk, h.keep.trans hk, h.row.keep hk, hk.blk h.blk (fun x => x)⟩
theorem TxI.write {w : World} {B : Nat} {a : Option Addr} {c : Nat} {names : List ByteArray} {acc : List UInt8} {T : Nat} {cs : Array Value} {W : World} (h : TxI w B a c names acc T cs W) (hB : w.heap.size ≤ B) (hT : ¬ T = B) (y : ByteArray) (x : List UInt8) (hx : y.data.toList = x) (ha : acc.length ≤ 100000000) (hy : y.size ≤ 1000000) :
    Calls Tryz.prog 71 #[.pointer (some ⟨B, 0, none⟩), .string y] W fun e w8 => ∃ v, e = .returned v ∧ RowKit.Hid (TxI w B a c names (acc ++ x) T cs w8) := by
  have hBW : B ≤ W.heap.size := by
    rcases h.bld with h1 | h1 <;> exact Nat.le_of_lt (World.block_lt_of_cell? _ _ h1.cell0)
  refine (bldWrite2 B B acc y W h.bld (by omega) hBW).mono ?_
  rintro e w8 ⟨⟨v, rfl⟩, h1, h2, h3⟩
  rw [hx] at h1
  exact ⟨v, rfl, h1, h.keep.thenUp hB (Keep.ofB h2), h.row.others (Nat.lt_succ_self _) h3, others_blk h3 h.blk hT (by decide)⟩
theorem textF_snoc (L : List Prc) : ∀ (l : List ByteArray) (n : ByteArray), textF L (l ++ [n]) = textF L l ++ (blockS ((findP L n).getD prc0) ++ endW ++ [10])
  | [], n => by simp [textF]
  | a :: l, n => by rw [List.cons_append, textF, textF, textF_snoc L l n]; simp only [List.append_assoc]
theorem kindsS_snoc : ∀ (l : List Int) (k : Int), kindsS (l ++ [k]) = kindsS l ++ (32 :: kindW k)
  | [], k => by simp [kindsS]
  | a :: l, k => by rw [List.cons_append, kindsS, kindsS, kindsS_snoc l k]; simp
theorem kindW_len (k : Int) : (kindW k).length ≤ 4 := by
  unfold kindW
  split
  · decide
  · split <;> decide
theorem kindsS_len : ∀ l : List Int, (kindsS l).length ≤ 5 * l.length
  | [] => Nat.le_refl _
  | a :: l => by
    have h1 := kindsS_len l
    have h2 := kindW_len a
    simp [kindsS]
    omega
theorem kind_cell {k : Int} (h : kindOk k = true) : ∃ j : Nat, k = j ∧ ∃ hj : j < kindsL.length, (kindsL[j]).data.toList = kindW k ∧ j < 4 := by
  unfold kindOk at h
  simp only [Bool.and_eq_true, decide_eq_true_eq] at h
  have : k = 1 ∨ k = 2 ∨ k = 3 := by omega
  rcases this with rfl | rfl | rfl
  · exact ⟨1, rfl, by decide, rfl, by decide⟩
  · exact ⟨2, rfl, by decide, rfl, by decide⟩
  · exact ⟨3, rfl, by decide, rfl, by decide⟩
theorem tmplOk_size {t : ByteArray} {n : Nat} (h : tmplOk t n = true) : t.size ≤ 64 := by
  unfold tmplOk cutT at h
  split at h
  · rename_i l hl
    split at hl
    · cases hl
    · rename_i hn
      omega
  · cases h
theorem lens_of (l : List ByteArray) (h : ∀ t ∈ l, t.size ≤ 64) : (l.map fun x => x.size + 1).sum ≤ 65 * l.length := by
  induction l with
  | nil => exact Nat.le_refl _
  | cons a l ih =>
    have h1 := ih fun t ht => h t (List.mem_cons_of_mem _ ht)
    have h2 := h a List.mem_cons_self
    simp
    omega
theorem disS_len (args : Int) (cs : List Val) (code : List Ins) (hc : ∀ v ∈ cs, badC v = false ∧ v.In) (hi : ∀ i ∈ code, badI args cs.length code.length i = false) (ha : args ≤ 8) (hn : code.length ≤ 256) : (disS (mkPgm args cs code)).length ≤ 60000 := by
  have h1 := argsHd_len args ha
  have h2 := insF_len hc hi ha hn code.length (Nat.le_refl _)
  rw [List.take_length] at h2
  show (argsHd args ++ insF cs code 0 code).length ≤ 60000
  rw [List.length_append]
  omega
end Go.Proofs.YtfgdnakfikpmpaaGreatDoor
namespace Go.Proofs.YtfgdnakfikpmpaaGreatDoor
open Go Go.RowKit Go.Deep
theorem tmplsS_len (w : List UInt8) (l : List ByteArray) (hw : w.length ≤ 6) (hl : l.length ≤ 32) (h : ∀ t ∈ l, t.size ≤ 64) : (tmplsS w l).length ≤ 2088 := by
  have h1 := join_le l 32
  have h2 := lens_of l h
  unfold lensP at h1
  unfold tmplsS
  split
  · exact Nat.zero_le _
  · simp only [List.length_append, List.length_cons, List.length_nil]
    omega
theorem blockS_len (p : Prc) (hh : p.Ok) (hd : (disS p.pgm).length ≤ 60000) : (blockS p ++ endW ++ [10]).length ≤ 100000 := by
  have h1 := hh.name
  unfold nameOk at h1
  simp only [Bool.and_eq_true, decide_eq_true_eq] at h1
  have h2 := kindsS_len p.kinds
  have h3 := hh.kinds
  have h4 : (if p.dep then 32 :: depW else []).length ≤ 10 := by
    split
    · decide
    · exact Nat.zero_le _
  have h5 := tmplsS_len readsW p.reads (by decide) hh.nr (fun t ht => by
    obtain ⟨i, hi, rfl⟩ := List.getElem_of_mem ht
    exact tmplOk_size (hh.reads i hi))
  have h6 := tmplsS_len writesW p.writes (by decide) hh.nw (fun t ht => by
    obtain ⟨i, hi, rfl⟩ := List.getElem_of_mem ht
    exact tmplOk_size (hh.writes i hi))
  have h7 : p.name.data.toList.length = p.name.size := rfl
  have h8 : procW.length = 4 := rfl
  have h9 : endW.length = 3 := rfl
  unfold blockS
  simp only [List.length_append, List.length_cons, List.length_nil]
  omega
set_option maxRecDepth 10000 in
set_option maxHeartbeats 8000000 in
theorem libText_any {w : World} {S : Nat → Prop} {B0 m : Nat} {L : List Prc} (h : LibAt w S B0 m L) (ht : Tab w) (hkw : KindsW w) : Calls Tryz.prog 33 #[.pointer (some ⟨B0, 0, none⟩)] w fun e w' => e = .returned (.string ⟨(libS L).toArray⟩) ∧ RowKit.Hid (Keep No w w') := by
  have K0 := (Keep.refl No w).alloc (.cells #[.pointer none, .slice none 0 0] 125)
  have hb0 := bld_new w
  have hnm := libNames_any (h.keep K0 (fun _ _ x => x))
  have hq0 := blk_alloc (o' := .cells #[.pointer none, .slice none 0 0] 125) h.blk
  obtain ⟨names, hnames⟩ : ∃ n, namesL L = n := ⟨_, rfl⟩
  have hfound : ∀ n ∈ names, ∃ p, findP L n = some p ∧ p ∈ L := fun n hn => by
    rw [← hnames] at hn
    have hn : n ∈ L.map Prc.name := (setT_mem _ _).1 hn
    cases hf : findP L n with
    | none => exact absurd hn (findP_none.1 hf)
    | some p => exact ⟨p, rfl, (findP_mem hf).1⟩
  have hlen : names.length ≤ 64 := by
    have h1 := setT_len_le (L.map Prc.name)
    rw [List.length_map] at h1
    have h2 := h.size
    have h3 : names.length = (setT (L.map Prc.name)).length := by rw [← hnames]; rfl
    omega
  have hle : ∀ n ∈ names, n.size ≤ 16 := by rw [← hnames]; exact names_le h
  have hS : libS L = textF L names := by rw [← hnames]; rfl
  rw [hnames] at hnm
  have HX := Lib.hid (And.intro h (And.intro ht (And.intro hkw (And.intro hfound (And.intro hle (And.intro hS (And.intro hlen hb0)))))))
  have i64 : (names.length : Int) ≤ 64 := by omega
  have HK0 := Lib.hid K0
  clear ht hkw hfound hle hS hlen K0 hnames hb0 hq0
  go_enter Tryz.func33, Tryz.ntmps33
  go_upto_block 0 with (go_at_call 32; refine hnm.mono ?_; clear hnm; rintro e w1 ⟨a, c, rfl, H1⟩)
  have HT0 := Lib.hid (show TxW w w.heap.size a c names [] w1 from ⟨HX.out.2.2.2.2.2.2.2.keep H1.out.1, HK0.out.trans H1.out.1, by have := H1.out.2.2; simpa using this⟩)
  clear H1 h
  go_wp2_with fail
  go_loopg [14] names.length (fun g i wr => ∃ k : Nat, k ≤ names.length ∧ g = names.length - k ∧ i = .int .i64 k ∧ RowKit.Hid (TxW w w.heap.size a c names (textF L (names.take k)) wr ∧ (textF L (names.take k)).length ≤ 100000 * k))
  case atStart => exact ⟨0, by omega, by omega, rfl, by simpa [textF] using HT0.out, by simp [textF]⟩
  case round =>
    obtain ⟨k, hk, rfl, rfl, HR⟩ := hrel
    by_cases hlt : k < names.length
    · have j1 : (k : Int) < names.length := by omega
      have j0 : (0 : Int) ≤ k := by omega
      obtain ⟨bn, hab, hcell⟩ := HR.out.1.row.get k hlt
      have hmem := List.getElem_mem hlt
      obtain ⟨p, hfp, hpL⟩ := HX.out.2.2.2.1 _ hmem
      have hn16 := HX.out.2.2.2.2.1 _ hmem
      have hstep : textF L (names.take (k + 1)) = textF L (names.take k) ++ (blockS p ++ endW ++ [10]) := by
        rw [List.take_succ_eq_append_getElem hlt, textF_snoc, hfp]; rfl
      have hpn : p.name = names[k] := (findP_mem hfp).2
      obtain ⟨cs, hlook, hrd⟩ := look_libN HX.out.1.map names[k] (by omega) hfp
      replace hlook := hlook wr HR.out.1.keep
      have hbB := blk_cell (HR.out.1.keep.blk HX.out.1.blk (fun x => x))
      have hhome := HX.out.1.home p hpL
      obtain ⟨nm, hnm⟩ : ∃ x, names[k] = x := ⟨_, rfl⟩
      rw [hnm] at hcell hn16 hlook hpn
      subst hab
      obtain ⟨a1, c1, a2, c2, a3, c3, a4, c4, a5, c5, hcs, h1, h2, h3, h4, h5, w1', w2'⟩ := proc_cells hrd
      have hcs : cs = #[.string p.name, .slice a1 p.kinds.length c1, .bool p.dep, .slice a2 p.reads.length c2, .slice a3 p.writes.length c3, .int .i64 p.pgm.args, .slice a4 p.pgm.consts.length c4, .slice a5 p.pgm.code.length c5] := by
        apply Array.toList_inj.1
        rw [hcs]
      subst hcs
      obtain ⟨acc, hacc⟩ : ∃ acc, textF L (names.take k) = acc := ⟨_, rfl⟩
      have h8 := HR.out
      rw [hacc] at h8 hstep
      have hPOK := hhome.ok
      have hpg := (pgmE_zero (args := p.pgm.args) (consts := p.pgm.consts) (code := p.pgm.code) (by rw [hhome.pgm])).2
      have hfo := formL_ok hpg
      have hin : ∀ v ∈ p.pgm.consts, badC v = false ∧ v.In := fun v hv => ⟨hfo.2.2.2.1 v hv, by
        obtain ⟨i, hi, rfl⟩ := List.getElem_of_mem hv
        obtain ⟨_, _, _, _, _, _, _, _, h, _⟩ := vals_get h4 i hi
        exact h⟩
      have hdl := disS_len p.pgm.args p.pgm.consts p.pgm.code hin hfo.2.2.2.2 hfo.1.2 hfo.2.2.1.2
      have HP := Lib.hid (And.intro h1 (And.intro h2 (And.intro h3 (And.intro h4 (And.intro h5 (And.intro hPOK (And.intro hhome.pgm hdl)))))))
      have hbl := blockS_len p hPOK hdl
      have HS := Lib.hid (And.intro hstep (And.intro h8.2 (And.intro hpn hn16)))
      have HBL := Lib.hid hbl
      clear hbl
      have HME := Lib.hid (And.intro (show names.length - (k + 1) < names.length - k by omega) (show k + 1 ≤ names.length by omega))
      have hTB : w.heap.size < wr.heap.size := by rcases h8.1.bld with h1 | h1 <;> exact World.block_lt_of_cell? _ _ h1.cell0
      have HTB := Lib.hid (show ¬ wr.heap.size = w.heap.size by omega)
      have HI0 := Lib.hid (show TxI w w.heap.size (some ⟨bn, 0, none⟩) c names acc wr.heap.size #[.string p.name, .slice a1 p.kinds.length c1, .bool p.dep, .slice a2 p.reads.length c2, .slice a3 p.writes.length c3, .int .i64 p.pgm.args, .slice a4 p.pgm.consts.length c4, .slice a5 p.pgm.code.length c5] (wr.alloc (.cells #[.string p.name, .slice a1 p.kinds.length c1, .bool p.dep, .slice a2 p.reads.length c2, .slice a3 p.writes.length c3, .int .i64 p.pgm.args, .slice a4 p.pgm.consts.length c4, .slice a5 p.pgm.code.length c5] 29)) from ⟨h8.1.bld.keep ((Keep.refl No wr).alloc _), h8.1.keep.alloc _, h8.1.row.keep ((Keep.refl No wr).alloc _), blk_new _ _⟩)
      have hc5 : ¬ 9223372036854775807 < 5 + nm.size := by omega
      have hwr1 := HI0.out.write (Nat.le_refl _) HTB.out ((⟨#[112, 114, 111, 99, 32]⟩ : ByteArray) ++ nm) (procW ++ [32] ++ nm.data.toList) (by rw [cat_list]; rfl) (by have := h8.2; omega) (by rw [ByteArray.size_append]; show 5 + nm.size ≤ 1000000; omega)
      clear h1 h2 h3 h4 h5 w1' w2' hhome hfo hin hdl hpg hPOK h8 hstep hpn hmem hfp hpL hrd hnm hacc hTB hlt hk HR hn16
      go_upto_block 2 with (go_at_call 71; refine hwr1.mono ?_; clear hwr1; rintro e w3 ⟨v, rfl, H3⟩; have q3 := blk_cell H3.out.blk)
      clear hlook hbB hcell hc5
      obtain ⟨T, hT⟩ : ∃ T, T = wr.heap.size := ⟨_, rfl⟩
      rw [← hT] at HTB H3 q3 ⊢
      clear hT HI0
      generalize wr = w0 at *
      have hk8 : p.kinds.length ≤ 8 := HP.out.2.2.2.2.2.1.kinds
      have i8 : (p.kinds.length : Int) ≤ 8 := by omega
      obtain ⟨A1, hA1⟩ : ∃ A, acc ++ (procW ++ [32] ++ nm.data.toList) = A := ⟨_, rfl⟩
      have hl1 : A1.length ≤ 7000000 := by
        rw [← hA1]
        have h1 := HS.out.2.1
        have h2 := HME.out.2
        have h3 := HX.out.2.2.2.2.2.2.1
        have h4 : nm.data.toList.length = nm.size := rfl
        have h5 := HS.out.2.2.2
        simp only [List.length_append, h4]
        show acc.length + (4 + 1 + nm.size) ≤ 7000000
        omega
      rw [hA1] at H3
      have HA1 := Lib.hid (And.intro hA1 hl1)
      clear hA1 hl1
      have kz3 := Lib.hid H3.out.keep
      go_cut [6] (fun q wx => q = .pointer (some ⟨T, 0, none⟩) ∧ RowKit.Hid (TxI w w.heap.size (some ⟨bn, 0, none⟩) c names (A1 ++ kindsS p.kinds) T #[.string p.name, .slice a1 p.kinds.length c1, .bool p.dep, .slice a2 p.reads.length c2, .slice a3 p.writes.length c3, .int .i64 p.pgm.args, .slice a4 p.pgm.consts.length c4, .slice a5 p.pgm.code.length c5] wx))
      case first =>
        go_wp2_with fail
        go_loopg [30] p.kinds.length (fun g i wr => ∃ q : Nat, q ≤ p.kinds.length ∧ g = p.kinds.length - q ∧ i = .int .i64 q ∧ RowKit.Hid (TxI w w.heap.size (some ⟨bn, 0, none⟩) c names (A1 ++ kindsS (p.kinds.take q)) T #[.string p.name, .slice a1 p.kinds.length c1, .bool p.dep, .slice a2 p.reads.length c2, .slice a3 p.writes.length c3, .int .i64 p.pgm.args, .slice a4 p.pgm.consts.length c4, .slice a5 p.pgm.code.length c5] wr))
        case atStart => exact ⟨0, by omega, by omega, rfl, by simp only [List.take_zero, kindsS, List.append_nil]; exact H3.out⟩
        case round =>
          obtain ⟨q, hq, rfl, rfl, HR2⟩ := hrel
          by_cases hlt : q < p.kinds.length
          · have j1 : (q : Int) < p.kinds.length := by omega
            have j0 : (0 : Int) ≤ q := by omega
            obtain ⟨bk, fk, hak, -, -, pk, -⟩ := ints_get (HP.out.1.agree _ HR2.out.keep.agreeNo) q hlt
            have hok := HP.out.2.2.2.2.2.1.kind q hlt
            obtain ⟨jj, hjj, hjl, hjw, hj4⟩ := kind_cell hok
            obtain ⟨b9, f9, e9, pc⟩ := (HX.out.2.2.1.keep HR2.out.keep (fun x => x)) jj hjl
            simp only [Option.some.injEq, Addr.mk.injEq, and_true] at e9
            obtain ⟨rfl, rfl⟩ := e9
            rw [Nat.zero_add] at pc
            rw [hjj] at pk
            have hsn : kindsS (p.kinds.take (q + 1)) = kindsS (p.kinds.take q) ++ (32 :: kindW p.kinds[q]) := by rw [List.take_succ_eq_append_getElem hlt, kindsS_snoc]
            obtain ⟨wd, hwd⟩ : ∃ x, kindsL[jj]'hjl = x := ⟨_, rfl⟩
            rw [hwd] at pc hjw
            have hwl : wd.size ≤ 4 := by have := kindW_len p.kinds[q]; rw [← hjw] at this; exact this
            have hc : ¬ 9223372036854775807 < 1 + wd.size := by omega
            have hwr := HR2.out.write (Nat.le_refl _) HTB.out ((⟨#[32]⟩ : ByteArray) ++ wd) (32 :: kindW p.kinds[q]) (by rw [cat_list, hjw]; rfl) (by have h1 := HA1.out.2; have h2 := kindsS_len (p.kinds.take q); rw [List.length_take] at h2; rw [List.length_append]; omega) (by rw [ByteArray.size_append]; show 1 + wd.size ≤ 1000000; omega)
            rw [List.append_assoc, ← hsn] at hwr
            have i4 : (jj : Int) < 4 := by omega
            have i0 : (0 : Int) ≤ jj := by omega
            have HM2 := Lib.hid (And.intro (show p.kinds.length - (q + 1) < p.kinds.length - q by omega) (show q + 1 ≤ p.kinds.length by omega))
            subst hak
            clear hok hjj hjw hj4 hjl hsn hwd hwl hlt hq
            go_wp2_with (go_at_call 71; refine hwr.mono ?_; clear hwr; rintro e w5 ⟨v, rfl, H5⟩)
            go_roundg (p.kinds.length - (q + 1))
            case measure => exact HM2.out.1
            case rel => exact ⟨q + 1, HM2.out.2, rfl, by simp, H5.out⟩
          · obtain rfl : q = p.kinds.length := by omega
            have HF := Lib.hid (show TxI w w.heap.size (some ⟨bn, 0, none⟩) c names (A1 ++ kindsS p.kinds) T #[.string p.name, .slice a1 p.kinds.length c1, .bool p.dep, .slice a2 p.reads.length c2, .slice a3 p.writes.length c3, .int .i64 p.pgm.args, .slice a4 p.pgm.consts.length c4, .slice a5 p.pgm.code.length c5] wr from by have := HR2.out; rwa [List.take_length] at this)
            clear hlt hq
            go_wp2_with fail
            go_meet
            case rel => exact ⟨rfl, HF.out⟩
      case rest =>
        obtain ⟨rfl, HC⟩ := hcut
        have hlk : (kindsS p.kinds).length ≤ 40 := by have := kindsS_len p.kinds; omega
        have HL0 := Lib.hid (show (A1 ++ kindsS p.kinds).length ≤ 7000100 from by rw [List.length_append]; have := HA1.out.2; omega)
        obtain ⟨A2, hA2⟩ : ∃ A, A1 ++ kindsS p.kinds = A := ⟨_, rfl⟩
        rw [hA2] at HC HL0
        have HA2 := Lib.hid hA2
        have q6 := blk_cell HC.out.blk
        clear hlk hA2 q3
        obtain ⟨bd, hbd⟩ : ∃ b, p.dep = b := ⟨_, rfl⟩
        have HBD := Lib.hid hbd
        go_upto_if 41 with fail
        go_cut [6] (fun q wx => q = .pointer (some ⟨T, 0, none⟩) ∧ RowKit.Hid (TxI w w.heap.size (some ⟨bn, 0, none⟩) c names (A2 ++ (if p.dep then 32 :: depW else [])) T #[.string p.name, .slice a1 p.kinds.length c1, .bool p.dep, .slice a2 p.reads.length c2, .slice a3 p.writes.length c3, .int .i64 p.pgm.args, .slice a4 p.pgm.consts.length c4, .slice a5 p.pgm.code.length c5] wx))
        case first =>
          cases bd with
          | true =>
            have HE := Lib.hid (show (if p.dep then 32 :: depW else []) = 32 :: depW from by rw [HBD.out]; rfl)
            have hwr := HC.out.write (Nat.le_refl _) HTB.out ⟨#[32, 100, 101, 112, 101, 110, 100, 101, 110, 116]⟩ (32 :: depW) rfl (by have := HL0.out; omega) (by decide)
            clear hbd
            go_wp2_with (go_at_call 71; refine hwr.mono ?_; clear hwr; rintro e w5 ⟨v, rfl, H5⟩)
            go_meet
            case rel => exact ⟨rfl, by rw [HE.out]; exact H5.out⟩
          | false =>
            have HE := Lib.hid (show (if p.dep then 32 :: depW else []) = [] from by rw [HBD.out]; rfl)
            clear hbd
            go_wp2_with fail
            go_meet
            case rel => exact ⟨rfl, by rw [HE.out, List.append_nil]; exact HC.out⟩
        case rest =>
          obtain ⟨rfl, HC2⟩ := hcut
          clear hbd q6
          have hdl : (if p.dep then 32 :: depW else []).length ≤ 10 := by
            split
            · decide
            · exact Nat.zero_le _
          have HL1 := Lib.hid (show (A2 ++ (if p.dep then 32 :: depW else []) ++ [10]).length ≤ 7000200 from by rw [List.length_append, List.length_append]; have := HL0.out; show A2.length + (if p.dep then 32 :: depW else []).length + 1 ≤ 7000200; omega)
          have hwr := HC2.out.write (Nat.le_refl _) HTB.out ⟨#[10]⟩ [10] rfl (by rw [List.length_append]; have := HL0.out; omega) (by decide)
          clear hdl
          obtain ⟨A3, hA3⟩ : ∃ A, A2 ++ (if p.dep then 32 :: depW else []) ++ [10] = A := ⟨_, rfl⟩
          rw [hA3] at hwr HL1
          have HA3 := Lib.hid hA3
          clear hA3
          go_upto_region 15 with (go_at_call 71; refine hwr.mono ?_; clear hwr; rintro e w5 ⟨v, rfl, H5⟩; have q5 := blk_cell H5.out.blk)
          obtain ⟨tb1, htb1⟩ : ∃ b, decide ((0 : Int) < p.reads.length) = b := ⟨_, rfl⟩
          have HT1 := Lib.hid htb1
          have htn1 : decide (0 < p.reads.length) = tb1 := by rw [← HT1.out]; simp
          have h32 : p.reads.length ≤ 32 := HP.out.2.2.2.2.2.1.nr
          have h64 : ∀ t ∈ p.reads, t.size ≤ 64 := fun t ht => by
            obtain ⟨i, hi, rfl⟩ := List.getElem_of_mem ht
            exact tmplOk_size (HP.out.2.2.2.2.2.1.reads i hi)
          have hjle := join_le p.reads 32
          have hlns := lens_of p.reads h64
          unfold lensP at hjle
          have hjl : (Lib.join (p.reads.map (·.data.toList)) [32]).length ≤ 2080 := by omega
          have HJL := Lib.hid (And.intro h32 hjl)
          clear h32 h64 hjle hlns hjl
          go_upto_if 47 with fail
          go_cut [6] (fun q wx => q = .pointer (some ⟨T, 0, none⟩) ∧ RowKit.Hid (TxI w w.heap.size (some ⟨bn, 0, none⟩) c names (A3 ++ tmplsS readsW p.reads) T #[.string p.name, .slice a1 p.kinds.length c1, .bool p.dep, .slice a2 p.reads.length c2, .slice a3 p.writes.length c3, .int .i64 p.pgm.args, .slice a4 p.pgm.consts.length c4, .slice a5 p.pgm.code.length c5] wx))
          case first =>
            cases tb1 with
            | true =>
              have hpos : (0 : Int) < p.reads.length := of_decide_eq_true HT1.out
              have hne : ¬ p.reads.length = 0 := by omega
              have hJ := joinC_any w5 _ a2 c2 p.reads (HP.out.2.1.agree _ H5.out.keep.agreeNo) ⟨#[32]⟩ (by show (Lib.join (p.reads.map (·.data.toList)) [32]).length ≤ _; have := HJL.out.2; omega) (by have := HJL.out.1; omega)
              have hJ : Calls Tryz.prog 59 #[.slice a2 p.reads.length c2, .string ⟨#[32]⟩] w5 fun e w' => e = .returned (.string ⟨(Lib.join (p.reads.map (·.data.toList)) [32]).toArray⟩) ∧ RowKit.Hid (Keep No w5 w') := hJ
              have hts : tmplsS readsW p.reads = readsW ++ [32] ++ Lib.join (p.reads.map (·.data.toList)) [32] ++ [10] := if_neg hne
              have hjl := HJL.out.2
              obtain ⟨J, hJJ⟩ : ∃ J, Lib.join (p.reads.map (·.data.toList)) [32] = J := ⟨_, rfl⟩
              rw [hJJ] at hJ hjl hts
              have HTS := Lib.hid (And.intro hts hjl)
              have hc1 : ¬ 9223372036854775807 < 6 + J.length := by omega
              have hc2 : ¬ 9223372036854775807 < 6 + J.length + 1 := by omega
              clear hts hjl hJJ hne htb1 htn1 hpos
              go_wp2_with (go_at_call 59; refine hJ.mono ?_; clear hJ; rintro e w7 ⟨rfl, HK7⟩; have HI7 := Lib.hid (H5.out.on HK7.out))
              go_at_call 71
              refine (HI7.out.write (Nat.le_refl _) HTB.out _ (tmplsS readsW p.reads) (by rw [HTS.out.1, cat_list, cat_list]; simp; rfl) (by have := HL1.out; omega) (by rw [ByteArray.size_append, ByteArray.size_append]; show 6 + J.toArray.size + 1 ≤ 1000000; have := HTS.out.2; rw [List.size_toArray]; omega)).mono ?_
              rintro e w8 ⟨v, rfl, H8⟩
              go_wp2_with fail
              go_meet
              case rel => exact ⟨rfl, H8.out⟩
            | false =>
              have hpos : ¬ (0 : Int) < p.reads.length := of_decide_eq_false HT1.out
              have HTS := Lib.hid (show tmplsS readsW p.reads = [] from if_pos (by omega))
              clear hpos htb1 htn1
              go_wp2_with fail
              go_meet
              case rel => exact ⟨rfl, by rw [HTS.out, List.append_nil]; exact H5.out⟩
          case rest =>
            obtain ⟨rfl, HC3⟩ := hcut
            clear htb1 htn1 q5
            have HL2 := Lib.hid (show (A3 ++ tmplsS readsW p.reads).length ≤ 7002400 from by
              rw [List.length_append]
              have h1 := HL1.out
              have h2 := HJL.out.2
              have h3 : (tmplsS readsW p.reads).length ≤ 2087 := by
                unfold tmplsS
                split
                · exact Nat.zero_le _
                · simp only [List.length_append]
                  show 5 + 1 + (Lib.join (p.reads.map (·.data.toList)) [32]).length + 1 ≤ 2087
                  omega
              omega)
            obtain ⟨A4, hA4⟩ : ∃ A, A3 ++ tmplsS readsW p.reads = A := ⟨_, rfl⟩
            rw [hA4] at HC3 HL2
            have HA4 := Lib.hid hA4
            have q7 := blk_cell HC3.out.blk
            clear hA4 HJL
            obtain ⟨tb2, htb2⟩ : ∃ b, decide ((0 : Int) < p.writes.length) = b := ⟨_, rfl⟩
            have HT2 := Lib.hid htb2
            have htn2 : decide (0 < p.writes.length) = tb2 := by rw [← HT2.out]; simp
            have h32 : p.writes.length ≤ 32 := HP.out.2.2.2.2.2.1.nw
            have h64 : ∀ t ∈ p.writes, t.size ≤ 64 := fun t ht => by
              obtain ⟨i, hi, rfl⟩ := List.getElem_of_mem ht
              exact tmplOk_size (HP.out.2.2.2.2.2.1.writes i hi)
            have hjle := join_le p.writes 32
            have hlns := lens_of p.writes h64
            unfold lensP at hjle
            have hjl : (Lib.join (p.writes.map (·.data.toList)) [32]).length ≤ 2080 := by omega
            have HJL := Lib.hid (And.intro h32 hjl)
            clear h32 h64 hjle hlns hjl
            go_upto_if 57 with fail
            go_cut [6] (fun q wx => q = .pointer (some ⟨T, 0, none⟩) ∧ RowKit.Hid (TxI w w.heap.size (some ⟨bn, 0, none⟩) c names (A4 ++ tmplsS writesW p.writes) T #[.string p.name, .slice a1 p.kinds.length c1, .bool p.dep, .slice a2 p.reads.length c2, .slice a3 p.writes.length c3, .int .i64 p.pgm.args, .slice a4 p.pgm.consts.length c4, .slice a5 p.pgm.code.length c5] wx))
            case first =>
              cases tb2 with
              | true =>
                have hpos : (0 : Int) < p.writes.length := of_decide_eq_true HT2.out
                have hne : ¬ p.writes.length = 0 := by omega
                have hJ := joinC_any wc _ a3 c3 p.writes (HP.out.2.2.1.agree _ HC3.out.keep.agreeNo) ⟨#[32]⟩ (by show (Lib.join (p.writes.map (·.data.toList)) [32]).length ≤ _; have := HJL.out.2; omega) (by have := HJL.out.1; omega)
                have hJ : Calls Tryz.prog 59 #[.slice a3 p.writes.length c3, .string ⟨#[32]⟩] wc fun e w' => e = .returned (.string ⟨(Lib.join (p.writes.map (·.data.toList)) [32]).toArray⟩) ∧ RowKit.Hid (Keep No wc w') := hJ
                have hts : tmplsS writesW p.writes = writesW ++ [32] ++ Lib.join (p.writes.map (·.data.toList)) [32] ++ [10] := if_neg hne
                have hjl := HJL.out.2
                obtain ⟨J, hJJ⟩ : ∃ J, Lib.join (p.writes.map (·.data.toList)) [32] = J := ⟨_, rfl⟩
                rw [hJJ] at hJ hjl hts
                have HTS := Lib.hid (And.intro hts hjl)
                have hc1 : ¬ 9223372036854775807 < 7 + J.length := by omega
                have hc2 : ¬ 9223372036854775807 < 7 + J.length + 1 := by omega
                clear hts hjl hJJ hne htb2 htn2 hpos
                go_wp2_with (go_at_call 59; refine hJ.mono ?_; clear hJ; rintro e w7 ⟨rfl, HK7⟩; have HI7 := Lib.hid (HC3.out.on HK7.out))
                go_at_call 71
                refine (HI7.out.write (Nat.le_refl _) HTB.out _ (tmplsS writesW p.writes) (by rw [HTS.out.1, cat_list, cat_list]; simp; rfl) (by have := HL2.out; omega) (by rw [ByteArray.size_append, ByteArray.size_append]; show 7 + J.toArray.size + 1 ≤ 1000000; have := HTS.out.2; rw [List.size_toArray]; omega)).mono ?_
                rintro e w8 ⟨v, rfl, H8⟩
                go_wp2_with fail
                go_meet
                case rel => exact ⟨rfl, H8.out⟩
              | false =>
                have hpos : ¬ (0 : Int) < p.writes.length := of_decide_eq_false HT2.out
                have HTS := Lib.hid (show tmplsS writesW p.writes = [] from if_pos (by omega))
                clear hpos htb2 htn2
                go_wp2_with fail
                go_meet
                case rel => exact ⟨rfl, by rw [HTS.out, List.append_nil]; exact HC3.out⟩
            case rest =>
              obtain ⟨rfl, HC4⟩ := hcut
              clear htb2 htn2 q7
              have HL3 := Lib.hid (show (A4 ++ tmplsS writesW p.writes).length ≤ 7005000 from by
                rw [List.length_append]
                have h1 := HL2.out
                have h2 := HJL.out.2
                have h3 : (tmplsS writesW p.writes).length ≤ 2088 := by
                  unfold tmplsS
                  split
                  · exact Nat.zero_le _
                  · simp only [List.length_append]
                    show 6 + 1 + (Lib.join (p.writes.map (·.data.toList)) [32]).length + 1 ≤ 2088
                    omega
                omega)
              obtain ⟨A5, hA5⟩ : ∃ A, A4 ++ tmplsS writesW p.writes = A := ⟨_, rfl⟩
              rw [hA5] at HC4 HL3
              have HA5 := Lib.hid hA5
              have q8 := blk_cell HC4.out.blk
              have hdis := asDis_any wc _ _ p.pgm.args p.pgm.consts p.pgm.code a4 a5 c4 c5 (HP.out.2.2.2.1.agree _ HC4.out.keep.agreeNo) (HP.out.2.2.2.2.1.agree _ HC4.out.keep.agreeNo) (HX.out.2.1.keep HC4.out.keep)
              unfold GivesDis at hdis
              rw [HP.out.2.2.2.2.2.2.1] at hdis
              simp only [if_true] at hdis
              have hdl := HP.out.2.2.2.2.2.2.2
              obtain ⟨D, hD⟩ : ∃ D, disS (mkPgm p.pgm.args p.pgm.consts p.pgm.code) = D := ⟨_, rfl⟩
              rw [hD] at hdis hdl
              have hfin : textF L (names.take (k + 1)) = A5 ++ (D ++ (endW ++ [10])) := by
                rw [HS.out.1, ← HA5.out, ← HA4.out, ← HA3.out, ← HA2.out, ← HA1.out.1, ← hD]
                unfold blockS
                rw [HS.out.2.2.1]
                simp only [List.append_assoc]
                rfl
              have HFN := Lib.hid (And.intro hfin hdl)
              have hc : ¬ 9223372036854775807 < D.length + 4 := by omega
              clear hA5 hD hdl hfin HJL
              go_wp2_with (go_at_call 84; refine hdis.mono ?_; clear hdis; rintro e w7 ⟨rfl, HK7⟩; have HI7 := Lib.hid (HC4.out.on HK7.out))
              go_at_call 71
              refine (HI7.out.write (Nat.le_refl _) HTB.out _ (D ++ (endW ++ [10])) (by rw [cat_list]; rfl) (by have := HL3.out; omega) (by rw [ByteArray.size_append]; show D.toArray.size + 4 ≤ 1000000; have := HFN.out.2; rw [List.size_toArray]; omega)).mono ?_
              rintro e w8 ⟨v, rfl, H8⟩
              go_wp2_with fail
              go_roundg (names.length - (k + 1))
              case measure => exact HME.out.1
              case rel =>
                refine ⟨k + 1, HME.out.2, rfl, by simp, ?_, ?_⟩
                · rw [HFN.out.1]
                  exact ⟨H8.out.bld, H8.out.keep, H8.out.row⟩
                · rw [HS.out.1, List.length_append]
                  have h1 := HS.out.2.1
                  have h2 := HBL.out
                  omega
    · obtain rfl : names.length = k := by omega
      have hst := bldString w.heap.size w.heap.size _ wr HR.out.1.bld HR.out.1.keep.size
      rw [List.take_length, ← HX.out.2.2.2.2.2.1] at hst
      have HKW := Lib.hid HR.out.1.keep
      obtain ⟨txt, htxt⟩ : ∃ t, libS L = t := ⟨_, rfl⟩
      rw [htxt] at hst
      have HTX := Lib.hid htxt
      clear htxt hlt hk
      go_wp2_with (go_at_call 75; refine hst.mono ?_; clear hst; rintro e w9 ⟨rfl, -, hb9⟩; have HB9 := Lib.hid hb9; clear hb9)
      go_ret
      rw [HTX.out]
      exact ⟨rfl, HKW.out.thenUp (Nat.le_refl _) (Keep.ofB HB9.out)⟩
end Go.Proofs.YtfgdnakfikpmpaaGreatDoor
