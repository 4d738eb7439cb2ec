/-
  Parts of what is proved for this claim; each declaration is one of the seat's texts.
-/
import Derived.Test.YtcallmnhaikfpaaGreatDoorTGA
import Derived.Test.YtcallmnhaikfpaaGreatDoorTGC
import Derived.Test.YtcallmnhaikfpaaGreatDoorTGF
import Derived.Test.YtcallmnhaikfpaaGreatDoorTGG
import Derived.Still
import Derived.StillTactics
import Derived.WalkKit
import Derived.WalkSpells
import Derived.WalkLawsBesides
import Derived.ProofKit
import Derived.Deep.Slices
import Derived.Deep.AppendSrc
import Derived.Lib.Hide
import Derived.Recover
import Derived.Defers
import Derived.Deep.QuietTactic
import Derived.BigQuiet
import Derived.Handy
import Derived.Laws.Bits64b
import Derived.Lib.Zigzag
set_option linter.unusedVariables false
set_option linter.unusedSimpArgs false
namespace Go.Proofs.YtcallmnhaikfpaaGreatDoor
open Go Go.RowKit Go.Deep
def Reads (T : TypeId) (w : World) (B : Nat) (S : Nat → Prop) (v : Value) (x : Value) (r : Rs) (e : Ending) (w' : World) : Prop :=
  e = .returned x ∧ RdrAt T w' B S v r ∧ Keep (One B) w w'
set_option maxRecDepth 20000 in
set_option maxHeartbeats 2000000 in
theorem bad_u64 (w : World) (B : Nat) (S : Nat → Prop) (v : Value) (r : Rs) (h : RdrAt 141 w B S v r) (he : r.err ≠ 0) (fv : Value) :
    Calls Tryz.prog 67 #[.pointer (some ⟨B, 0, none⟩), fv] w (Reads 141 w B S v (.int .u64 0) r) := by
  have lB := h.lt
  have g2 := (((Keep.refl No w).alloc (.cells #[.pointer (some ⟨B, 0, none⟩)] 109)).alloc (.cells #[.int .u64 0] 35))
  have h2 := h.agree g2
  have b3 := blk_cell h2.blk 3
  simp only [List.getElem?_toArray, List.getElem?_cons_succ, List.getElem?_cons_zero] at b3
  have d3 : (r.err != 0) = true := by simpa using he
  have HH := Lib.hid h
  clear h he h2 g2
  go_enter_defers Tryz.func67, Tryz.ntmps67
  go_wp2
  refine ⟨.int .u64 0, by simp [results, Tryz.results67, go_sem], rfl, ?_, ?_⟩
  · have h : RdrAt 141 w B S v r := HH
    exact h.agree (((Keep.refl No w).alloc _).alloc _)
  · exact ((Keep.refl (One B) w).alloc _).alloc _
def ofO (r : Rs) (z : Value) : (Value × Nat) ⊕ Int → Value × Rs
  | .inl (x, k) => (x, r.took k)
  | .inr e => (z, r.fails e)
theorem ReadTo.reads {w : World} {B : Nat} {S : Nat → Prop} {v : Value} {r : Rs} {z : Value} {o : (Value × Nat) ⊕ Int} {e : Ending} {w' : World} (h : ReadTo 141 w B S v r z o e w') {x : Value} {r' : Rs}
    (hx : ofO r z o = (x, r')) : Reads 141 w B S v x r' e w' := by
  obtain ⟨h1, h2⟩ := h
  cases o with
  | inl o => obtain ⟨y, k⟩ := o; cases hx; exact ⟨h2.1, h2.2, h1⟩
  | inr y => cases hx; exact ⟨h2.1, h2.2, h1⟩
theorem ofO_num {r : Rs} (he : r.err = 0) : ofO r (.int .u64 0) (numO (numB r.rest)) = (.int .u64 r.uint.1, r.uint.2) := by
  unfold numO Rs.uint
  rw [if_neg (show ¬ r.err ≠ 0 by simpa using he)]
  by_cases h : (numB r.rest).2.2 = 0
  · rw [if_pos h, if_neg (by simpa using h)]; rfl
  · rw [if_neg h, if_pos h]; rfl
theorem ofO_byte {r : Rs} (he : r.err = 0) : ofO r (.int .u8 0) (byteO r.rest) = (.int .u8 r.byte.1, r.byte.2) := by
  unfold byteO Rs.byte
  rw [if_neg (show ¬ r.err ≠ 0 by simpa using he)]
  cases r.rest <;> rfl
theorem ofO_count {r : Rs} (he : r.err = 0) (most : Int) : ofO r (.int .i64 0) (limO (limB most 6 r.rest)) = (.int .i64 (r.count most).1, (r.count most).2) := by
  unfold limO Rs.count
  rw [if_neg (show ¬ r.err ≠ 0 by simpa using he)]
  by_cases h : (limB most 6 r.rest).2.2 = 0
  · rw [if_pos h, if_neg (by simpa using h)]; rfl
  · rw [if_neg h, if_pos h]; rfl
theorem ofO_text {r : Rs} (he : r.err = 0) (most : Int) : ofO r (.string ⟨#[]⟩) (textO most r.rest) = (.string (r.text most).1, (r.text most).2) := by
  unfold textO Rs.text
  rw [if_neg (show ¬ r.err ≠ 0 by simpa using he)]
  by_cases h : (limB most 1 r.rest).2.2 = 0
  · by_cases h2 : r.rest.length < (limB most 1 r.rest).2.1 + (limB most 1 r.rest).1
    · simp only [h, h2, ne_eq, not_true_eq_false, if_false, if_true]; rfl
    · simp only [h, h2, ne_eq, not_true_eq_false, if_false]; rfl
  · simp only [h, ne_eq, not_false_eq_true, if_true]; rfl
def intO (n : Nat × Nat × Int) : (Value × Nat) ⊕ Int := if n.2.2 = 0 then .inl (.int .i64 (zag n.1), n.2.1) else .inr n.2.2
theorem ofO_int {r : Rs} (he : r.err = 0) : ofO r (.int .i64 0) (intO (numB r.rest)) = (.int .i64 r.int.1, r.int.2) := by
  unfold intO Rs.int Rs.uint
  rw [if_neg (show ¬ r.err ≠ 0 by simpa using he)]
  by_cases h : (numB r.rest).2.2 = 0
  · rw [if_pos h, if_neg (by simpa using h)]; rfl
  · rw [if_neg h, if_pos h]; show _ = (Value.int .i64 (zag 0), _); rw [show zag 0 = 0 from by decide]; rfl
theorem fnCall119 (args : Array Value) (w : World) : (callFunc 68 args).run Tryz.prog w = .ok (.enter 68 args) w := by kernel_rfl
theorem fnCall124 (args : Array Value) (w : World) : (callFunc 98 args).run Tryz.prog w = .ok (.enter 98 args) w := by kernel_rfl
theorem fnCall121 (args : Array Value) (w : World) : (callFunc 73 args).run Tryz.prog w = .ok (.enter 73 args) w := by kernel_rfl
theorem fnCall141 (args : Array Value) (w : World) : (callFunc 70 args).run Tryz.prog w = .ok (.enter 70 args) w := by kernel_rfl
theorem fnCall174 (args : Array Value) (w : World) : (callFunc 130 args).run Tryz.prog w = .ok (.enter 130 args) w := by kernel_rfl
theorem numB_errlt (l : Bytes) : 0 ≤ (numB l).2.2 ∧ (numB l).2.2 < 1000 := by have := numB_err l; omega
theorem rest_len (r : Rs) : r.rest.length = r.b.length - r.at' := by simp [Rs.rest]
theorem okO_num {r : Rs} (h : r.Ok) : OkO (fun x => ∃ n, x = .int .u64 n) r (numO (numB r.rest)) := by
  have hat := h.at_le
  unfold numO
  by_cases h0 : (numB r.rest).2.2 = 0
  · rw [if_pos h0]; have := numB_len _ h0; rw [rest_len] at this; exact ⟨by omega, _, rfl⟩
  · rw [if_neg h0]; exact numB_errlt _
theorem okO_int {r : Rs} (h : r.Ok) : OkO (fun x => ∃ n, x = .int .i64 n) r (intO (numB r.rest)) := by
  have hat := h.at_le
  unfold intO
  by_cases h0 : (numB r.rest).2.2 = 0
  · rw [if_pos h0]; have := numB_len _ h0; rw [rest_len] at this; exact ⟨by omega, _, rfl⟩
  · rw [if_neg h0]; exact numB_errlt _
theorem okO_byte {r : Rs} (h : r.Ok) : OkO (fun x => ∃ n, x = .int .u8 n) r (byteO r.rest) := by
  have hat := h.at_le
  have hl := rest_len r
  unfold byteO
  cases hr : r.rest with
  | nil => exact ⟨by omega, by omega⟩
  | cons c t => rw [hr] at hl; simp at hl; exact ⟨by omega, _, rfl⟩
theorem okO_lim {r : Rs} (h : r.Ok) (most e : Int) (h0 : 0 < e) (h1 : e < 1000) : OkO (fun x => ∃ n, x = .int .i64 n) r (limO (limB most e r.rest)) := by
  have hat := h.at_le
  unfold limO
  by_cases hz : (limB most e r.rest).2.2 = 0
  · rw [if_pos hz]
    obtain ⟨e1, -, e3, -⟩ := limB_ok hz (by omega)
    have := numB_len _ e1; rw [rest_len, ← e3] at this; exact ⟨by omega, _, rfl⟩
  · rw [if_neg hz]; exact limB_err _ h0 h1
theorem okO_text {r : Rs} (h : r.Ok) (most : Int) : OkO (fun x => ∃ n, x = .string n) r (textO most r.rest) := by
  have hat := h.at_le
  unfold textO
  by_cases hz : (limB most 1 r.rest).2.2 = 0
  · rw [if_neg (by simpa using hz)]
    by_cases h2 : r.rest.length < (limB most 1 r.rest).2.1 + (limB most 1 r.rest).1
    · rw [if_pos h2]; exact ⟨by omega, by omega⟩
    · rw [if_neg h2]; rw [rest_len] at h2; exact ⟨by omega, _, rfl⟩
  · rw [if_pos hz]; exact limB_err _ (by omega) (by omega)
set_option maxHeartbeats 1000000 in
theorem Uint_any (w : World) (B : Nat) (S : Nat → Prop) (v : Value) (r : Rs) (h : RdrAt 141 w B S v r) :
    Calls Tryz.prog 42 #[.pointer (some ⟨B, 0, none⟩)] w (Reads 141 w B S v (.int .u64 r.uint.1) r.uint.2) := by
  have hmf : ∀ (fn : Fn) (first cap : Array Value) (w : World), (Instr.makeFunc fn first cap).run Tryz.prog w = .ok (.func fn first cap) w := fun _ _ _ _ => rfl
  have key : Calls Tryz.prog 67 #[.pointer (some ⟨B, 0, none⟩), .func (.func 68) #[.pointer (some ⟨B, 0, none⟩)] #[]] w (Reads 141 w B S v (.int .u64 r.uint.1) r.uint.2) := by
    by_cases he : r.err = 0
    · exact (read_u64 w B S v r h he 68 #[.pointer (some ⟨B, 0, none⟩)] #[] _ (okO_num h.ok) fnCall119 fun w1 k1 => uint_any w1 B _ v r (h.live.agree k1)).mono fun e w' hr => hr.reads (ofO_num he)
    · have e1 : r.uint = (0, r) := by unfold Rs.uint; rw [if_pos he]
      rw [e1]
      exact bad_u64 w B S v r h he _
  clear h
  go_enter Tryz.func42, Tryz.ntmps42
  go_wp2_with (go_at_call 67; refine key.mono ?_; clear key; rintro e w' ⟨rfl, h1, h2⟩)
  go_ret
  exact ⟨rfl, h1, h2⟩
end Go.Proofs.YtcallmnhaikfpaaGreatDoor
namespace Go.Proofs.YtcallmnhaikfpaaGreatDoor
open Go Go.RowKit Go.Deep
set_option maxRecDepth 20000 in
set_option maxHeartbeats 2000000 in
theorem bad_u8 (w : World) (B : Nat) (S : Nat → Prop) (v : Value) (r : Rs) (h : RdrAt 141 w B S v r) (he : r.err ≠ 0) (fv : Value) :
    Calls Tryz.prog 101 #[.pointer (some ⟨B, 0, none⟩), fv] w (Reads 141 w B S v (.int .u8 0) r) := by
  have lB := h.lt
  have g2 := (((Keep.refl No w).alloc (.cells #[.pointer (some ⟨B, 0, none⟩)] 109)).alloc (.cells #[.int .u8 0] 5))
  have h2 := h.agree g2
  have b3 := blk_cell h2.blk 3
  simp only [List.getElem?_toArray, List.getElem?_cons_succ, List.getElem?_cons_zero] at b3
  have d3 : (r.err != 0) = true := by simpa using he
  have HH := Lib.hid h
  clear h he h2 g2
  go_enter_defers Tryz.func101, Tryz.ntmps101
  go_wp2
  refine ⟨.int .u8 0, by simp [results, Tryz.results101, go_sem], rfl, ?_, ?_⟩
  · have h : RdrAt 141 w B S v r := HH
    exact h.agree (((Keep.refl No w).alloc _).alloc _)
  · exact ((Keep.refl (One B) w).alloc _).alloc _
set_option maxRecDepth 20000 in
set_option maxHeartbeats 2000000 in
theorem bad_str (w : World) (B : Nat) (S : Nat → Prop) (v : Value) (r : Rs) (h : RdrAt 141 w B S v r) (he : r.err ≠ 0) (fv : Value) :
    Calls Tryz.prog 72 #[.pointer (some ⟨B, 0, none⟩), fv] w (Reads 141 w B S v (.string ⟨#[]⟩) r) := by
  have lB := h.lt
  have g2 := (((Keep.refl No w).alloc (.cells #[.pointer (some ⟨B, 0, none⟩)] 109)).alloc (.cells #[.string ⟨#[]⟩] 9))
  have h2 := h.agree g2
  have b3 := blk_cell h2.blk 3
  simp only [List.getElem?_toArray, List.getElem?_cons_succ, List.getElem?_cons_zero] at b3
  have d3 : (r.err != 0) = true := by simpa using he
  have HH := Lib.hid h
  clear h he h2 g2
  go_enter_defers Tryz.func72, Tryz.ntmps72
  go_wp2
  refine ⟨.string ⟨#[]⟩, by simp [results, Tryz.results72, go_sem], rfl, ?_, ?_⟩
  · have h : RdrAt 141 w B S v r := HH
    exact h.agree (((Keep.refl No w).alloc _).alloc _)
  · exact ((Keep.refl (One B) w).alloc _).alloc _
set_option maxRecDepth 20000 in
set_option maxHeartbeats 2000000 in
theorem bad_cnt (w : World) (B : Nat) (S : Nat → Prop) (v : Value) (r : Rs) (h : RdrAt 141 w B S v r) (he : r.err ≠ 0) (fv : Value) :
    Calls Tryz.prog 69 #[.pointer (some ⟨B, 0, none⟩), fv] w (Reads 141 w B S v (.int .i64 0) r) := by
  have lB := h.lt
  have g2 := (((Keep.refl No w).alloc (.cells #[.pointer (some ⟨B, 0, none⟩)] 109)).alloc (.cells #[.int .i64 0] 3))
  have h2 := h.agree g2
  have b3 := blk_cell h2.blk 3
  simp only [List.getElem?_toArray, List.getElem?_cons_succ, List.getElem?_cons_zero] at b3
  have d3 : (r.err != 0) = true := by simpa using he
  have HH := Lib.hid h
  clear h he h2 g2
  go_enter_defers Tryz.func69, Tryz.ntmps69
  go_wp2
  refine ⟨.int .i64 0, by simp [results, Tryz.results69, go_sem], rfl, ?_, ?_⟩
  · have h : RdrAt 141 w B S v r := HH
    exact h.agree (((Keep.refl No w).alloc _).alloc _)
  · exact ((Keep.refl (One B) w).alloc _).alloc _
set_option maxRecDepth 20000 in
set_option maxHeartbeats 2000000 in
theorem bad_i64 (w : World) (B : Nat) (S : Nat → Prop) (v : Value) (r : Rs) (h : RdrAt 141 w B S v r) (he : r.err ≠ 0) (fv : Value) :
    Calls Tryz.prog 129 #[.pointer (some ⟨B, 0, none⟩), fv] w (Reads 141 w B S v (.int .i64 0) r) := by
  have lB := h.lt
  have g2 := (((Keep.refl No w).alloc (.cells #[.pointer (some ⟨B, 0, none⟩)] 109)).alloc (.cells #[.int .i64 0] 2))
  have h2 := h.agree g2
  have b3 := blk_cell h2.blk 3
  simp only [List.getElem?_toArray, List.getElem?_cons_succ, List.getElem?_cons_zero] at b3
  have d3 : (r.err != 0) = true := by simpa using he
  have HH := Lib.hid h
  clear h he h2 g2
  go_enter_defers Tryz.func129, Tryz.ntmps129
  go_wp2
  refine ⟨.int .i64 0, by simp [results, Tryz.results129, go_sem], rfl, ?_, ?_⟩
  · have h : RdrAt 141 w B S v r := HH
    exact h.agree (((Keep.refl No w).alloc _).alloc _)
  · exact ((Keep.refl (One B) w).alloc _).alloc _
theorem xor_m1 (x : Nat) (hx : x < 9223372036854775808) : bits .xor .i64 (x : Int) (-1) = -(x : Int) - 1 := by
  have h := Go.Lib.i64_not x hx
  have hc : bits .xor .i64 (x : Int) (-1) = bits .xor .i64 (-1) (x : Int) := by
    show IntKind.i64.wrap ((BitVec.ofInt 64 (x : Int) ^^^ BitVec.ofInt 64 (-1)).toNat : Int) = IntKind.i64.wrap ((BitVec.ofInt 64 (-1) ^^^ BitVec.ofInt 64 (x : Int)).toNat : Int)
    rw [BitVec.xor_comm]
  rw [hc, h]
theorem xor_0 (x : Nat) (hx : x < 9223372036854775808) : bits .xor .i64 (x : Int) 0 = (x : Int) := by
  show IntKind.i64.wrap ((BitVec.ofInt 64 (x : Int) ^^^ BitVec.ofInt 64 0).toNat : Int) = _
  have h2 : (BitVec.ofInt 64 (x : Int)).toNat = x := by
    rw [BitVec.ofInt_natCast, BitVec.toNat_ofNat]; exact Nat.mod_eq_of_lt (by omega)
  have h3 : (BitVec.ofInt 64 (x : Int) ^^^ BitVec.ofInt 64 0) = BitVec.ofInt 64 (x : Int) := by
    rw [show BitVec.ofInt 64 0 = 0#64 from rfl, BitVec.xor_zero]
  rw [h3, h2, IntKind.wrap_i64]
  omega
theorem zag_bits (n : Nat) (h : n < 2 ^ 64) : bits BinOp.xor IntKind.i64 ((n : Int) / 2) (wrap64 (-wrap64 (bits BinOp.and IntKind.u64 (n : Int) 1))) = zag n := by
  rw [Go.Lib.u64_and1 _ (by omega) (by omega)]
  unfold zag
  have e2 : ((n : Int) / 2) = ((n / 2 : Nat) : Int) := by omega
  split
  · rename_i h0
    have e1 : (n : Int) % 2 = 0 := by omega
    rw [e1, e2, show wrap64 (-wrap64 0) = 0 from by simp [wrap64]]
    exact xor_0 (n / 2) (by omega)
  · rename_i h0
    have e1 : (n : Int) % 2 = 1 := by omega
    rw [e1, e2, show wrap64 (-wrap64 1) = -1 from by simp [wrap64]]
    exact xor_m1 (n / 2) (by omega)
set_option maxHeartbeats 1000000 in
theorem int_any (w : World) (B : Nat) (S : Nat → Prop) (v : Value) (r : Rs) (h : RdrAt 141 w B S v r) :
    Calls Tryz.prog 130 #[.pointer (some ⟨B, 0, none⟩)] w (Takes 141 148 w B S v r (intO (numB r.rest))) := by
  have hu := uint_any w B S v r h
  have hlt : (numB r.rest).2.2 = 0 → (numB r.rest).1 < 2 ^ 64 := fun hz => (numB_ok h.ok.rest hz).1
  generalize numB r.rest = nb at hu hlt
  by_cases h1 : nb.2.2 = 0
  · have hlt := hlt h1
    have hO : numO nb = .inl (.int .u64 nb.1, nb.2.1) := by unfold numO; rw [if_pos h1]
    have hI : intO nb = .inl (.int .i64 (zag nb.1), nb.2.1) := by unfold intO; rw [if_pos h1]
    rw [hO] at hu
    rw [hI]
    generalize nb.1 = n at hu hlt hI ⊢
    clear hO hI h h1
    go_enter Tryz.func130, Tryz.ntmps130
    go_wp2_with (go_at_call 68; refine hu.mono ?_; clear hu; rintro e' w2 ⟨a, hr2, hk2, rfl, rfl⟩)
    go_ret
    exact ⟨_, hr2, hk2, congrArg Ending.returned (congrArg (Value.int .i64) (zag_bits n hlt)), rfl⟩
  · have hO : numO nb = .inr nb.2.2 := by unfold numO; rw [if_neg h1]
    have hI : intO nb = .inr nb.2.2 := by unfold intO; rw [if_neg h1]
    rw [hO] at hu
    rw [hI]
    clear hO hI h h1
    go_enter Tryz.func130, Tryz.ntmps130
    go_wp2_with (go_at_call 68; refine hu.mono ?_; clear hu; rintro e' w2 ⟨a, hr2, hk2, rfl⟩)
    exact ⟨rfl, _, hr2, hk2, rfl⟩
set_option maxHeartbeats 1000000 in
theorem Byte_any (w : World) (B : Nat) (S : Nat → Prop) (v : Value) (r : Rs) (h : RdrAt 141 w B S v r) :
    Calls Tryz.prog 74 #[.pointer (some ⟨B, 0, none⟩)] w (Reads 141 w B S v (.int .u8 r.byte.1) r.byte.2) := by
  have hmf : ∀ (fn : Fn) (first cap : Array Value) (w : World), (Instr.makeFunc fn first cap).run Tryz.prog w = .ok (.func fn first cap) w := fun _ _ _ _ => rfl
  have key : Calls Tryz.prog 101 #[.pointer (some ⟨B, 0, none⟩), .func (.func 98) #[.pointer (some ⟨B, 0, none⟩)] #[]] w (Reads 141 w B S v (.int .u8 r.byte.1) r.byte.2) := by
    by_cases he : r.err = 0
    · exact (read_u8 w B S v r h he 98 #[.pointer (some ⟨B, 0, none⟩)] #[] _ (okO_byte h.ok) fnCall124 fun w1 k1 => byte_any w1 B _ v r (h.live.agree k1)).mono fun e w' hr => hr.reads (ofO_byte he)
    · have e1 : r.byte = (0, r) := by unfold Rs.byte; rw [if_pos he]
      rw [e1]
      exact bad_u8 w B S v r h he _
  clear h
  go_enter Tryz.func74, Tryz.ntmps74
  go_wp2_with (go_at_call 101; refine key.mono ?_; clear key; rintro e w' ⟨rfl, h1, h2⟩)
  go_ret
  exact ⟨rfl, h1, h2⟩
set_option maxHeartbeats 1000000 in
theorem Int_any (w : World) (B : Nat) (S : Nat → Prop) (v : Value) (r : Rs) (h : RdrAt 141 w B S v r) :
    Calls Tryz.prog 117 #[.pointer (some ⟨B, 0, none⟩)] w (Reads 141 w B S v (.int .i64 r.int.1) r.int.2) := by
  have hmf : ∀ (fn : Fn) (first cap : Array Value) (w : World), (Instr.makeFunc fn first cap).run Tryz.prog w = .ok (.func fn first cap) w := fun _ _ _ _ => rfl
  have key : Calls Tryz.prog 129 #[.pointer (some ⟨B, 0, none⟩), .func (.func 130) #[.pointer (some ⟨B, 0, none⟩)] #[]] w (Reads 141 w B S v (.int .i64 r.int.1) r.int.2) := by
    by_cases he : r.err = 0
    · exact (read_i64 w B S v r h he 130 #[.pointer (some ⟨B, 0, none⟩)] #[] _ (okO_int h.ok) fnCall174 fun w1 k1 => int_any w1 B _ v r (h.live.agree k1)).mono fun e w' hr => hr.reads (ofO_int he)
    · have e1 : r.int = (0, r) := by unfold Rs.int; unfold Rs.uint; rw [if_pos he]; show (zag 0, r) = (0, r); rw [show zag 0 = 0 from by decide]
      rw [e1]
      exact bad_i64 w B S v r h he _
  clear h
  go_enter Tryz.func117, Tryz.ntmps117
  go_wp2_with (go_at_call 129; refine key.mono ?_; clear key; rintro e w' ⟨rfl, h1, h2⟩)
  go_ret
  exact ⟨rfl, h1, h2⟩
set_option maxHeartbeats 1000000 in
theorem count_take (w : World) (B : Nat) (S : Nat → Prop) (v : Value) (r : Rs) (h : RdrAt 141 w B S v r) (most : Int) (hm : most ≤ 9223372036854775807) (hm0 : -9223372036854775808 ≤ most) (p q : Nat)
    (hp : w.cell? ⟨p, 0, none⟩ = some (.pointer (some ⟨B, 0, none⟩))) (hq : w.cell? ⟨q, 0, none⟩ = some (.int .i64 most)) :
    Calls Tryz.prog 70 #[.pointer (some ⟨p, 0, none⟩), .pointer (some ⟨q, 0, none⟩)] w (Takes 141 148 w B S v r (limO (limB most 6 r.rest))) := by
  have hu := limited_any w B S v r h most 6 hm hm0 (by omega)
  generalize limO (limB most 6 r.rest) = o at hu ⊢
  clear h
  cases o with
  | inl o =>
    go_enter Tryz.func70, Tryz.ntmps70
    go_wp2_with (go_at_call 71; refine hu.mono ?_; clear hu; rintro e' w2 ⟨a, hr2, hk2, rfl, rfl⟩)
    go_ret
    exact ⟨_, hr2, hk2, rfl, rfl⟩
  | inr x =>
    go_enter Tryz.func70, Tryz.ntmps70
    go_wp2_with (go_at_call 71; refine hu.mono ?_; clear hu; rintro e' w2 ⟨a, hr2, hk2, rfl⟩)
    exact ⟨rfl, _, hr2, hk2, rfl⟩
set_option maxHeartbeats 2000000 in
theorem Count_any (w : World) (B : Nat) (S : Nat → Prop) (v : Value) (r : Rs) (h : RdrAt 141 w B S v r) (most : Int) (hm : most ≤ 9223372036854775807) (hm0 : -9223372036854775808 ≤ most) :
    Calls Tryz.prog 43 #[.pointer (some ⟨B, 0, none⟩), .int .i64 most] w (Reads 141 w B S v (.int .i64 (r.count most).1) (r.count most).2) := by
  have hmf : ∀ (fn : Fn) (first cap : Array Value) (w : World), (Instr.makeFunc fn first cap).run Tryz.prog w = .ok (.func fn first cap) w := fun _ _ _ _ => rfl
  have g2 := (((Keep.refl No w).alloc (.cells #[.pointer (some ⟨B, 0, none⟩)] 109)).alloc (.cells #[.int .i64 most] 3))
  have key : Calls Tryz.prog 69 #[.pointer (some ⟨B, 0, none⟩), .func (.func 70) #[] #[.pointer (some ⟨w.heap.size, 0, none⟩), .pointer (some ⟨w.heap.size + 1, 0, none⟩)]] ((w.alloc (.cells #[.pointer (some ⟨B, 0, none⟩)] 109)).alloc (.cells #[.int .i64 most] 3))
      (fun e w' => Reads 141 w B S v (.int .i64 (r.count most).1) (r.count most).2 e w') := by
    have lB := h.lt
    have h2 := h.agree g2
    have x0 := blk_alloc (o' := .cells #[.int .i64 most] 3) (blk_new w (.cells #[.pointer (some ⟨B, 0, none⟩)] 109))
    have x1 := blk_new (w.alloc (.cells #[.pointer (some ⟨B, 0, none⟩)] 109)) (.cells #[.int .i64 most] 3)
    simp only [World.size_alloc] at x1
    have back : ∀ e w', Reads 141 ((w.alloc (.cells #[.pointer (some ⟨B, 0, none⟩)] 109)).alloc (.cells #[.int .i64 most] 3)) B S v (.int .i64 (r.count most).1) (r.count most).2 e w' → Reads 141 w B S v (.int .i64 (r.count most).1) (r.count most).2 e w' :=
      fun e w' hr => ⟨hr.1, hr.2.1, (g2.mono (N := One B) fun _ _ x => x.elim).trans hr.2.2⟩
    by_cases he : r.err = 0
    · refine (read_cnt _ B S v r h2 he 70 #[] #[.pointer (some ⟨w.heap.size, 0, none⟩), .pointer (some ⟨w.heap.size + 1, 0, none⟩)] _ (okO_lim h.ok most 6 (by omega) (by omega)) fnCall141 fun w1 k1 => ?_).mono fun e w' hr => back e w' (hr.reads (ofO_count he most))
      have y0 := k1.blk x0 (fun x => x)
      have y1 := k1.blk x1 (fun x => x)
      exact count_take w1 B _ v r (h2.live.agree k1) most hm hm0 _ _ (blk_cell y0 0) (blk_cell y1 0)
    · have e1 : r.count most = (0, r) := by unfold Rs.count; rw [if_pos he]
      refine (bad_cnt _ B S v r h2 he _).mono fun e w' hr => back e w' ?_
      rw [e1]
      exact hr
  clear h g2
  go_enter Tryz.func43, Tryz.ntmps43
  go_wp2_with (go_at_call 69; refine key.mono ?_; clear key; rintro e w' ⟨rfl, h1, h2⟩)
  go_ret
  exact ⟨rfl, h1, h2⟩
set_option maxHeartbeats 2000000 in
theorem Text_any (w : World) (B : Nat) (S : Nat → Prop) (v : Value) (r : Rs) (h : RdrAt 141 w B S v r) (most : Int) (hm : most ≤ 9223372036854775807) (hm0 : -9223372036854775808 ≤ most) :
    Calls Tryz.prog 45 #[.pointer (some ⟨B, 0, none⟩), .int .i64 most] w (Reads 141 w B S v (.string (r.text most).1) (r.text most).2) := by
  have hmf : ∀ (fn : Fn) (first cap : Array Value) (w : World), (Instr.makeFunc fn first cap).run Tryz.prog w = .ok (.func fn first cap) w := fun _ _ _ _ => rfl
  have g2 := (((Keep.refl No w).alloc (.cells #[.pointer (some ⟨B, 0, none⟩)] 109)).alloc (.cells #[.int .i64 most] 3))
  have key : Calls Tryz.prog 72 #[.pointer (some ⟨B, 0, none⟩), .func (.func 73) #[] #[.pointer (some ⟨w.heap.size, 0, none⟩), .pointer (some ⟨w.heap.size + 1, 0, none⟩)]] ((w.alloc (.cells #[.pointer (some ⟨B, 0, none⟩)] 109)).alloc (.cells #[.int .i64 most] 3))
      (fun e w' => Reads 141 w B S v (.string (r.text most).1) (r.text most).2 e w') := by
    have lB := h.lt
    have h2 := h.agree g2
    have x0 := blk_alloc (o' := .cells #[.int .i64 most] 3) (blk_new w (.cells #[.pointer (some ⟨B, 0, none⟩)] 109))
    have x1 := blk_new (w.alloc (.cells #[.pointer (some ⟨B, 0, none⟩)] 109)) (.cells #[.int .i64 most] 3)
    simp only [World.size_alloc] at x1
    have back : ∀ e w', Reads 141 ((w.alloc (.cells #[.pointer (some ⟨B, 0, none⟩)] 109)).alloc (.cells #[.int .i64 most] 3)) B S v (.string (r.text most).1) (r.text most).2 e w' → Reads 141 w B S v (.string (r.text most).1) (r.text most).2 e w' :=
      fun e w' hr => ⟨hr.1, hr.2.1, (g2.mono (N := One B) fun _ _ x => x.elim).trans hr.2.2⟩
    by_cases he : r.err = 0
    · refine (read_str _ B S v r h2 he 73 #[] #[.pointer (some ⟨w.heap.size, 0, none⟩), .pointer (some ⟨w.heap.size + 1, 0, none⟩)] _ (okO_text h.ok most) fnCall121 fun w1 k1 => ?_).mono fun e w' hr => back e w' (hr.reads (ofO_text he most))
      have y0 := k1.blk x0 (fun x => x)
      have y1 := k1.blk x1 (fun x => x)
      exact text_take w1 B _ v r (h2.live.agree k1) most hm hm0 _ _ (by omega) (by omega) (blk_cell y0 0) (blk_cell y1 0)
    · have e1 : r.text most = (textOf [], r) := by unfold Rs.text; rw [if_pos he]
      refine (bad_str _ B S v r h2 he _).mono fun e w' hr => back e w' ?_
      rw [e1]
      exact hr
  clear h g2
  go_enter Tryz.func45, Tryz.ntmps45
  go_wp2_with (go_at_call 72; refine key.mono ?_; clear key; rintro e w' ⟨rfl, h1, h2⟩)
  go_ret
  exact ⟨rfl, h1, h2⟩
end Go.Proofs.YtcallmnhaikfpaaGreatDoor
