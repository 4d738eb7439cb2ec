/-
  Parts of what is proved for this claim; each declaration is one of the seat's texts.
-/
import Derived.Test.YtcallmnhaikfpaaGreatDoorTGA
import Derived.Test.YtcallmnhaikfpaaGreatDoorTGC
import Derived.Test.YtcallmnhaikfpaaGreatDoorTGF
import Derived.Test.YtcallmnhaikfpaaGreatDoorTGI
import Derived.Still
import Derived.StillTactics
import Derived.WalkKit
import Derived.WalkSpells
import Derived.WalkLawsBesides
import Derived.ProofKit
import Derived.Deep.Slices
import Derived.Deep.AppendSrc
import Derived.Lib.Hide
import Derived.Recover
import Derived.Defers
import Derived.Deep.QuietTactic
import Derived.BigQuiet
import Derived.Handy
import Derived.Laws.Bits64b
import Derived.Lib.Zigzag
import Derived.OwnWalk
set_option linter.unusedVariables false
set_option linter.unusedSimpArgs false
namespace Go.Proofs.YtcallmnhaikfpaaGreatDoor
open Go Go.RowKit Go.Deep
def OwnB (w0 w : World) (v : Value) (l : Bytes) : Prop := Own (.int .u8) 5 w (Fr w0.heap.size w.heap.size) v l ∧ Keep No w0 w
theorem flat_rows {w : World} {T : Nat → Prop} (l : Bytes) (h : AllB l) (i : Nat) (hi : i < (l.map fun x => [Value.int .u8 x]).length) (hi' : i < l.length) : Rd (.int .u8) w T (l.map fun x => [Value.int .u8 x])[i] l[i] := by
  have := h l[i] (List.getElem_mem hi')
  refine ⟨by simp, ?_⟩
  simp [Lit.wf, IntKind.min, IntKind.max, IntKind.signed, IntKind.bits]
  omega
theorem flat_flatten (l : Bytes) : (l.map fun x => [Value.int .u8 x]).flatten = l.map (Value.int .u8) := by
  induction l with
  | nil => rfl
  | cons x l ih => simp [ih]
theorem app_src {w0 w w1 : World} {v : Value} {l : Bytes} (h : OwnB w0 w v l) (hk : Keep No w w1) {u : TypeId} {x : Value} {xs : Bytes} (hs : Src Tryz.prog 1 u x xs.length (xs.map (Value.int .u8)) w1) (hx : AllB xs) (hl : l.length + xs.length ≤ 140737488355328) :
    ∃ a c w', (Builtin.append_ #[55, u] 55 #[v, x]).run Tryz.prog w1 = .ok (.slice a (l.length + xs.length) c) w' ∧ OwnB w0 w' (.slice a (l.length + xs.length) c) (l ++ xs) := by
  obtain ⟨i0, hi, hz0, hz1, hz2⟩ := info_parts Tryz.infoByte
  obtain ⟨ho, hk0⟩ := h
  have ho := ho.agree (k := hk.agreeNo)
  obtain ⟨g, rows, T, h1, h2, h3, h4, h5⟩ := ho
  have hxr := flat_flatten xs
  have hk1 : Keep No w0 w1 := hk0.trans hk
  obtain ⟨a, c, w', g', hr, ho', hg', hk', hsz⟩ := own_append h1 55 u 55 i0 _ 1 Tryz.underlying55 hi hz0 hz1 hz2 rfl (x := x) (news := xs.map fun x => [Value.int .u8 x]) (by
    rw [List.length_map, hxr]; exact hs) (fun r hr => by obtain ⟨y, -, rfl⟩ := List.mem_map.1 hr; rfl) (by rw [List.length_map, h2]; omega) (by rw [List.length_map, h2]; omega)
  rw [List.length_map, h2] at hr ho'
  have hge := hk1.size
  have hge' := hk.size
  refine ⟨a, c, w', hr, ⟨g', rows ++ xs.map (fun x => [Value.int .u8 x]), No, ho', by simp [h2], fun i hi hi' => ?_, fun b hb => ⟨?_, fun x => x⟩, fun _ x => x.elim⟩, hk1.then hk' fun i hi hg => ?_⟩
  · by_cases hlt : i < rows.length
    · rw [List.getElem_append_left hlt, List.getElem_append_left (by omega)]
      exact Rd.ofFlat _ rfl (h3 i hlt (by omega))
    · simp only [List.length_append, List.length_map] at hi hi'
      have e1 : (rows ++ xs.map fun x => [Value.int .u8 x])[i]'(by simp; omega) = (xs.map fun x => [Value.int .u8 x])[i - rows.length]'(by simp; omega) := List.getElem_append_right (by omega)
      have e2 : (l ++ xs)[i]'(by simp; omega) = xs[i - l.length]'(by omega) := List.getElem_append_right (by omega)
      rw [e1, e2]
      have e3 : xs[i - l.length]'(by omega) = xs[i - rows.length]'(by omega) := by simp only [h2]
      rw [e3]
      exact flat_rows xs hx _ _ _
  · have hlt := ho'.lt hb
    rcases hg' with rfl | rfl
    · exact ⟨(h4 b hb).1.1, hlt⟩
    · cases hb; exact ⟨hge, hlt⟩
  · have := (h4 i hg).1.1
    omega
theorem app_byte {w0 w : World} {v : Value} {l : Bytes} (h : OwnB w0 w v l) (x : Int) (h0 : 0 ≤ x) (h1 : x < 256) (hl : l.length + 1 ≤ 140737488355328) :
    ∃ a c w', (Builtin.append_ #[55, 55] 55 #[v, .slice (some ⟨w.heap.size, 0, none⟩) 1 1]).run Tryz.prog (w.alloc (.cells #[.int .u8 x] 5)) = .ok (.slice a (l.length + 1) c) w' ∧ OwnB w0 w' (.slice a (l.length + 1) c) (l ++ [x]) :=
  app_src h ((Keep.refl No w).alloc _) (xs := [x]) (Src.ofBlock Tryz.underlying55 w.heap.size 1 1 #[.int .u8 x] 5 _ (blk_new w _) rfl (fun u hu => by simp at hu; subst hu; rfl)) (AllB.cons h0 h1 .nil) hl
theorem app_text {w0 w : World} {v : Value} {l : Bytes} (h : OwnB w0 w v l) (s : ByteArray) (hl : l.length + s.size ≤ 140737488355328) :
    ∃ a c w', (Builtin.append_ #[55, 9] 55 #[v, .string s]).run Tryz.prog w = .ok (.slice a (l.length + s.size) c) w' ∧ OwnB w0 w' (.slice a (l.length + s.size) c) (l ++ bytesOf s) := by
  have := app_src h (Keep.refl No w) (xs := bytesOf s) (u := 9) (x := .string s) (by
    have := Src.ofString (P := Tryz.prog) w (tx := 9) Tryz.underlying9 s
    rw [bytesOf_length]
    have e : (bytesOf s).map (Value.int .u8) = byteCells s := by simp [bytesOf, byteCells]
    rw [e]; exact this) (bytesOf_allB s) (by rw [bytesOf_length]; exact hl)
  rw [bytesOf_length] at this
  exact this
theorem or128_all : ∀ c : Fin 256, bits BinOp.or .u8 ((c.val : Nat) : Int) 128 = ((c.val % 128 + 128 : Nat) : Int) := by decide +kernel
theorem or128 (n : Nat) : bits BinOp.or .u8 (IntKind.u8.wrap (n : Int)) 128 = ((n % 128 + 128 : Nat) : Int) := by
  have e : IntKind.u8.wrap (n : Int) = ((n % 256 : Nat) : Int) := by rw [IntKind.wrap_u8]; omega
  rw [e, or128_all ⟨n % 256, Nat.mod_lt _ (by omega)⟩]
  show ((n % 256 % 128 + 128 : Nat) : Int) = _
  congr 1; omega
set_option maxHeartbeats 2000000 in
theorem PutUint_any (w : World) (S : Nat → Prop) (v : Value) (l : Bytes) (h : Rd bytesSh w S [v] l) (n : Int) (h0 : 0 ≤ n) (h1 : n < 18446744073709551616) (hl : l.length + 10 ≤ 140737488355328) :
    Calls Tryz.prog 35 #[v, .int .u64 n] w fun e w' => ∃ a c, e = .returned (.slice a (l ++ uintB n.toNat).length c) ∧ OwnB w w' (.slice a (l ++ uintB n.toNat).length c) (l ++ uintB n.toNat) := by
  have hc := clone_bytes w S v l h (by omega)
  clear h
  obtain ⟨n, rfl⟩ : ∃ k : Nat, n = k := ⟨n.toNat, by omega⟩
  rw [Int.toNat_natCast]
  have hn : n < 2 * 128 ^ 9 := by omega
  clear h0 h1
  go_enter Tryz.func35, Tryz.ntmps35
  go_wp2_with (go_at_call 62; refine hc.mono ?_; clear hc; rintro e w1 ⟨a, c, rfl, ho, hk⟩)
  go_loopw [1, 5] (fun i s wr => ∃ (f m : Nat) (done : Bytes), f ≤ 9 ∧ i = .int .u64 m ∧ OwnB w wr s (l ++ done) ∧ done.length + f ≤ 9 ∧ done ++ uintF f m = uintB n ∧ m < 2 * 128 ^ f) (fun i _ _ => (intOf i).toNat)
  case atStart => exact ⟨9, n, [], by omega, rfl, by rw [List.append_nil]; exact ⟨ho, hk⟩, by simp, rfl, hn⟩
  case round =>
    obtain ⟨f, m, done, hf, rfl, hOwn, hdl, hd, hm⟩ := hrel
    by_cases h128 : m < 128
    · have j1 : (m : Int) ≤ 127 := by omega
      have e1 : uintF f m = [(m : Int)] := by cases f with
        | zero => rfl
        | succ f => unfold uintF; rw [if_pos h128]
      rw [e1] at hd
      have hw : IntKind.u8.wrap (m : Int) = m := by rw [IntKind.wrap_u8]; omega
      obtain ⟨a', c', w', hrun, hfin⟩ := app_byte hOwn (m : Int) (by omega) (by omega) (by rw [List.length_append]; omega)
      have HF := Lib.hid hfin
      have HD := Lib.hid hd
      clear hd hdl hOwn hm hfin e1 ho hk h128 hn hl hf
      set_option maxRecDepth 3000 in go_wp2_with (at_builtin; refine wpList_app rfl (.tmp 18) (.tmp 21) 55 55 rfl rfl rfl hrun ?_)
      go_ret
      have hd : done ++ [(m : Int)] = uintB n := HD
      have hfin : OwnB w w' (.slice a' ((l ++ done).length + 1) c') ((l ++ done) ++ [(m : Int)]) := HF
      rw [List.append_assoc, hd] at hfin
      have hlen : (l ++ done).length + 1 = (l ++ uintB n).length := by rw [← hd]; simp; omega
      rw [hlen] at hfin
      have hlen2 : l.length + done.length + 1 = (l ++ uintB n).length := by rw [← hlen]; simp
      exact ⟨a', c', congrArg (fun k => Ending.returned (Value.slice a' k c')) hlen2, hfin⟩
    · have j1 : 128 ≤ (m : Int) := by omega
      obtain ⟨f, rfl⟩ : ∃ g, f = g + 1 := by
        cases f with
        | zero => exfalso; simp at hm; omega
        | succ f => exact ⟨f, rfl⟩
      have hx := or128 m
      obtain ⟨a', c', w', hrun, hfin⟩ := app_byte hOwn (bits BinOp.or .u8 (IntKind.u8.wrap (m : Int)) 128) (by rw [hx]; omega) (by rw [hx]; omega) (by rw [List.length_append]; omega)
      rw [hx] at hfin
      have hd' : (done ++ [((m % 128 + 128 : Nat) : Int)]) ++ uintF f (m / 128) = uintB n := by
        rw [← hd, List.append_assoc]; conv => rhs; unfold uintF
        rw [if_neg h128]; rfl
      have hm' : m / 128 < 2 * 128 ^ f := by rw [Nat.pow_succ] at hm; omega
      have HF := Lib.hid hfin
      have HD := Lib.hid (And.intro hd' (And.intro hm' (And.intro hdl hf)))
      have j2 : (m : Int) ≤ 18446744073709551615 := by
        have : (128 : Nat) ^ (f + 1) ≤ 128 ^ 9 := Nat.pow_le_pow_right (by decide) hf
        have h9 : (128 : Nat) ^ 9 = 9223372036854775808 := by decide
        omega
      clear hd hdl hOwn hm hfin hd' hm' ho hk hx hf hn hl h128
      go_wp2_with (at_builtin; refine wpList_app rfl (.tmp 10) (.tmp 14) 55 55 rfl rfl rfl hrun ?_)
      go_roundw
      case rel =>
        obtain ⟨hd', hm', hdl, hf⟩ := HD
        have hfin : OwnB w w' (.slice a' ((l ++ done).length + 1) c') ((l ++ done) ++ [((m % 128 + 128 : Nat) : Int)]) := HF
        rw [List.append_assoc] at hfin
        simp only [List.length_append] at hfin
        exact ⟨f, m / 128, done ++ [((m % 128 + 128 : Nat) : Int)], by omega, by simp, hfin, by simp; omega, hd', hm'⟩
      case measure => simp [intOf]; omega
set_option maxHeartbeats 1000000 in
theorem PutText_any (w : World) (S : Nat → Prop) (v : Value) (l : Bytes) (h : Rd bytesSh w S [v] l) (s : ByteArray) (hl : l.length + s.size + 10 ≤ 140737488355328) :
    Calls Tryz.prog 37 #[v, .string s] w fun e w' => ∃ a c, e = .returned (.slice a (l ++ textB s).length c) ∧ OwnB w w' (.slice a (l ++ textB s).length c) (l ++ textB s) := by
  have hs : (s.size : Int) ≤ 140737488355328 := by omega
  have hp := PutUint_any w S v l h (s.size : Int) (by omega) (by omega) (by omega)
  rw [Int.toNat_natCast] at hp
  have hp := hp.mono (R' := fun e w' => ∃ a c, e = .returned (.slice a (l ++ uintB s.size).length c) ∧ ∃ a' c' w'', (Builtin.append_ #[55, 9] 55 #[.slice a (l ++ uintB s.size).length c, .string s]).run Tryz.prog w' = .ok (.slice a' ((l ++ uintB s.size).length + s.size) c') w'' ∧
      RowKit.Hid (OwnB w w'' (.slice a' ((l ++ uintB s.size).length + s.size) c') ((l ++ uintB s.size) ++ bytesOf s))) (by
    rintro e w' ⟨a, c, rfl, ho⟩
    obtain ⟨a', c', w'', h1, h2⟩ := app_text ho s (by have := uintB_length s.size; simp; omega)
    exact ⟨a, c, rfl, a', c', w'', h1, h2⟩)
  have hw : IntKind.u64.wrap (s.size : Int) = s.size := by rw [IntKind.wrap_u64]; omega
  obtain ⟨n, hn⟩ : ∃ n, n = (l ++ uintB s.size).length := ⟨_, rfl⟩
  rw [← hn] at hp
  have HN := Lib.hid hn
  clear h hl hn
  go_enter Tryz.func37, Tryz.ntmps37
  go_wp2_with (first | (go_at_call 35; refine hp.mono ?_; clear hp; rintro e w1 ⟨a, c, rfl, a', c', w2, hrun, HO⟩) | (at_builtin; refine wpList_app rfl (.tmp 9) (.tmp 10) 55 9 rfl rfl rfl hrun ?_))
  go_ret
  have hn : n = (l ++ uintB s.size).length := HN
  have ho : OwnB w w2 (.slice a' (n + s.size) c') ((l ++ uintB s.size) ++ bytesOf s) := HO
  have hlen : n + s.size = (l ++ textB s).length := by rw [hn]; simp [textB, bytesOf_length]; omega
  rw [hlen, List.append_assoc] at ho
  exact ⟨a', c', congrArg Ending.returned (by show Value.slice a' _ c' = _; rw [hlen]), ho⟩
end Go.Proofs.YtcallmnhaikfpaaGreatDoor
namespace Go.Proofs.YtcallmnhaikfpaaGreatDoor
open Go Go.RowKit Go.Deep
theorem clone_bytesApp (w : World) (S : Nat → Prop) (v : Value) (l : Bytes) (h : Rd bytesSh w S [v] l) (hl : l.length ≤ 140737488355328) :
    ∃ a c w', (Builtin.append_ #[55, 55] 55 #[.slice (some ⟨w.heap.size, 0, none⟩) 0 0, v]).run Tryz.prog (w.alloc (.cells #[] 5)) = .ok (.slice a l.length c) w' ∧ OwnB w w' (.slice a l.length c) l := by
  obtain ⟨i0, hi, hz0, hz1, hz2⟩ := info_parts Tryz.infoByte
  obtain ⟨a', c', w', hrun, ho, hk⟩ := clone_big h rfl 55 5 55 i0 _ 1 Tryz.underlying55 hi hz0 hz1 hz2 rfl hl (by omega)
  exact ⟨a', c', w', hrun, ho, hk⟩
theorem xor_pos (n : Int) (h0 : 0 ≤ n) (h1 : n ≤ 9223372036854775807) : bits BinOp.xor IntKind.u64 (n * 2) (n / 9223372036854775808) = ((zig n : Nat) : Int) := by
  have e1 : n / 9223372036854775808 = ((0 : Nat) : Int) := by omega
  have e2 : n * 2 = ((n * 2).toNat : Int) := by omega
  rw [e1, e2, bits_xor_u64_nat _ _ (by omega) (by omega), Nat.xor_zero]
  unfold zig; rw [if_pos h0]; omega
theorem xor_neg (n : Int) (h0 : -9223372036854775808 ≤ n) (h1 : n < 0) : bits BinOp.xor IntKind.u64 (IntKind.u64.wrap (IntKind.u64.wrap n * 2)) (IntKind.u64.wrap (n / 9223372036854775808)) = ((zig n : Nat) : Int) := by
  have e1 : IntKind.u64.wrap (n / 9223372036854775808) = IntKind.u64.max := by
    have : n / 9223372036854775808 = -1 := by omega
    rw [this, IntKind.wrap_u64]; rfl
  have hz := Go.Lib.zigzag_neg h0 h1
  have hc : ∀ a b : Int, bits BinOp.xor IntKind.u64 a b = bits BinOp.xor IntKind.u64 b a := fun a b => by
    show IntKind.u64.wrap ((BitVec.ofInt 64 a ^^^ BitVec.ofInt 64 b).toNat : Int) = IntKind.u64.wrap ((BitVec.ofInt 64 b ^^^ BitVec.ofInt 64 a).toNat : Int)
    rw [BitVec.xor_comm]
  rw [e1, hc, hz]
  unfold Go.Lib.zigzag zig
  split <;> rename_i h <;> simp <;> omega
set_option maxHeartbeats 1000000 in
theorem PutInt_any (w : World) (S : Nat → Prop) (v : Value) (l : Bytes) (h : Rd bytesSh w S [v] l) (n : Int) (h0 : -9223372036854775808 ≤ n) (h1 : n ≤ 9223372036854775807) (hl : l.length + 10 ≤ 140737488355328) :
    Calls Tryz.prog 114 #[v, .int .i64 n] w fun e w' => ∃ a c, e = .returned (.slice a (l ++ uintB (zig n)).length c) ∧ OwnB w w' (.slice a (l ++ uintB (zig n)).length c) (l ++ uintB (zig n)) := by
  have hzl := zig_lt h0 h1
  have hp := PutUint_any w S v l h ((zig n : Nat) : Int) (by omega) (by omega) hl
  rw [Int.toNat_natCast] at hp
  clear h hl
  by_cases hn : 0 ≤ n
  · rw [← xor_pos n hn h1] at hp
    clear hzl
    go_enter Tryz.func114, Tryz.ntmps114
    go_wp2_with (go_at_call 35; refine hp.mono ?_; clear hp; rintro e w1 ⟨a, c, rfl, ho⟩)
    go_ret
    exact ⟨a, c, congrArg (fun k => Ending.returned (Value.slice a k c)) (by simp), ho⟩
  · rw [← xor_neg n h0 (by omega)] at hp
    clear hzl
    go_enter Tryz.func114, Tryz.ntmps114
    go_wp2_with (go_at_call 35; refine hp.mono ?_; clear hp; rintro e w1 ⟨a, c, rfl, ho⟩)
    go_ret
    exact ⟨a, c, congrArg (fun k => Ending.returned (Value.slice a k c)) (by simp), ho⟩
def Puts (w : World) (x : Bytes) (e : Ending) (w' : World) : Prop := ∃ a n c, e = .returned (.slice a n c) ∧ OwnB w w' (.slice a n c) x
theorem OwnB.len {w0 w : World} {a : Option Addr} {n c : Nat} {x : Bytes} (h : OwnB w0 w (.slice a n c) x) : n = x.length := by
  obtain ⟨a', c', e, -⟩ := h.1.form
  simp only [Value.slice.injEq] at e
  exact e.2.1
theorem OwnB.rd {w0 w : World} {v : Value} {x : Bytes} (h : OwnB w0 w v x) : Rd bytesSh w (Fr w0.heap.size w.heap.size) [v] x := Own.rd h.1
theorem OwnB.then {w0 w w1 : World} {v : Value} {x : Bytes} (h : OwnB w w1 v x) (hk : Keep No w0 w) : OwnB w0 w1 v x :=
  ⟨h.1.mono fun k hk' => ⟨Nat.le_trans hk.size hk'.1, hk'.2⟩, hk.trans h.2⟩
end Go.Proofs.YtcallmnhaikfpaaGreatDoor
