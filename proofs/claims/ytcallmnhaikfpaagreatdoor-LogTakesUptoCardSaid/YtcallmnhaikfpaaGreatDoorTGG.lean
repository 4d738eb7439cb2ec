/-
  Parts of what is proved for this claim; each declaration is one of the seat's texts.
-/
import Derived.Test.YtcallmnhaikfpaaGreatDoorTGA
import Derived.Test.YtcallmnhaikfpaaGreatDoorTGB
import Derived.Test.YtcallmnhaikfpaaGreatDoorTGC
import Derived.Test.YtcallmnhaikfpaaGreatDoorTGF
import Derived.Still
import Derived.StillTactics
import Derived.WalkKit
import Derived.WalkSpells
import Derived.WalkLawsBesides
import Derived.ProofKit
import Derived.Deep.Slices
import Derived.Deep.AppendSrc
import Derived.Lib.Hide
import Derived.Recover
import Derived.Defers
import Derived.Deep.QuietTactic
import Derived.BigQuiet
import Derived.Handy
import Derived.Laws.Bits64b
set_option linter.unusedVariables false
set_option linter.unusedSimpArgs false
namespace Go.Proofs.YtcallmnhaikfpaaGreatDoor
open Go Go.RowKit Go.Deep
theorem RdrAt.mono {T : TypeId} {w : World} {B : Nat} {S S' : Nat → Prop} {v : Value} {r : Rs} (h : RdrAt T w B S v r) (hs : ∀ k, k < w.heap.size → S k → S' k) (hB : ¬ S' B) : RdrAt T w B S' v r := ⟨h.blk, h.rd.mono bytesSh hs, hB, h.ok, h.pl⟩
theorem RdrAt.live {T : TypeId} {w : World} {B : Nat} {S : Nat → Prop} {v : Value} {r : Rs} (h : RdrAt T w B S v r) : RdrAt T w B (fun k => S k ∧ k < w.heap.size) v r := h.mono (fun k hk hs => ⟨hs, hk⟩) fun x => h.nB x.1
theorem RdrAt.other {T : TypeId} {w : World} {B : Nat} {S : Nat → Prop} {v : Value} {r : Rs} (h : RdrAt T w B S v r) {b i : Nat} (hb : ¬ b = B) (hS : ¬ S b) (x : Value) : RdrAt T (w.setCell ⟨b, i, none⟩ x) B S v r :=
  ⟨blk_other h.blk (show (⟨b, i, none⟩ : Addr).block ≠ B from hb) x, h.rd.agree bytesSh (agree_set hS i x), h.nB, h.ok, h.pl⟩
theorem assert_gave (x : Value) (w : World) : (Instr.typeAssert (.iface 148 x) 20 148 true).run Tryz.prog w = .ok (.tuple #[x, .bool true]) w := by kernel_rfl
theorem catch_idle_u64 (p q s : Addr) (w : World) :
    CallsD Tryz.prog 97 #[.pointer (some p), .pointer (some q), .pointer (some s)] .returning w fun e u' w' => e = .returned (.tuple #[]) ∧ u' = .returning ∧ w' = w := by
  refine callsD_of_wpS Tryz.func97 rfl fun c₀ cs hu => ?_
  apply wpS_seq
  apply wpS_region
  simp [wpOpsS, go_sem, recoverD, hu, Tryz.ntmps97, Exit.thenS]
  apply wpS_seq
  apply wpS_region
  simp [wpOpsS, go_sem, Exit.thenS]
  refine wpS_cond (t := false) (by simp [Act.eval, Array.replicate]) ?_
  simp only [Bool.false_eq_true, if_false]
  refine wpS_of_wp (wp_skip ?_)
  cases c₀
  simp_all [bodyPostS, results, Tryz.results97]
set_option maxRecDepth 20000 in
theorem catch_gave_u64 (w : World) (B fb xb rb : Nat) (S : Nat → Prop) (v : Value) (r : Rs) (from' : Nat) (e : Int) (z0 : Value) (h : RdrAt 141 w B S v r)
    (hf : w.cell? ⟨fb, 0, none⟩ = some (.int .i64 from')) (hx : w.cell? ⟨xb, 0, none⟩ = some z0) (hxz : w.frozen? ⟨xb, 0, none⟩ = false) (hr : w.cell? ⟨rb, 0, none⟩ = some (.pointer (some ⟨B, 0, none⟩)))
    (h1 : ¬ fb = B) (h2 : ¬ xb = B) (h3 : ¬ rb = B) (h4 : ¬ fb = xb) (h5 : ¬ rb = xb) (hS : ¬ S xb) (h0 : 0 ≤ e) (h1000 : e < 1000) (hfl : from' ≤ r.b.length) :
    CallsD Tryz.prog 97 #[.pointer (some ⟨fb, 0, none⟩), .pointer (some ⟨xb, 0, none⟩), .pointer (some ⟨rb, 0, none⟩)] (.panicking (gave 148 e)) w fun en u' w' =>
      en = .returned (.tuple #[]) ∧ u' = .panicking [{ v := .iface 148 (.agg #[.int .i64 e]), recovered := true }] ∧ w'.cell? ⟨xb, 0, none⟩ = some (.int .u64 0) ∧ RdrAt 141 w' B S v { r with at' := from', err := e, spot := from' } ∧ Keep (Or2 (One xb) (One B)) w w' := by
  have lf := World.block_lt_of_cell? _ _ hf
  have lx := World.block_lt_of_cell? _ _ hx
  have lr := World.block_lt_of_cell? _ _ hr
  have lB := h.lt
  have kA : Keep No w (w.alloc (.cells #[.int .i64 e] 148)) := (Keep.refl No w).alloc _
  have hfA := (kA.cell lf (o := 0) (fun x => x)).trans hf
  have hxA := (kA.cell lx (o := 0) (fun x => x)).trans hx
  have hxzA := (kA.frozen lx (o := 0) (fun x => x)).trans hxz
  have hrA := (kA.cell lr (o := 0) (fun x => x)).trans hr
  have hA := h.agree kA
  have b1 := blk_cell hA.blk 1
  have b3 := blk_cell hA.blk 3
  have b4 := blk_cell hA.blk 4
  have z1 := blk_fro hA.blk 1
  have z3 := blk_fro hA.blk 3
  have z4 := blk_fro hA.blk 4
  simp only [List.getElem?_toArray, List.getElem?_cons_succ, List.getElem?_cons_zero] at b1 b3 b4
  have n1 : ¬ w.heap.size = xb := by have : xb < w.heap.size := lx; omega
  have n2 : ¬ w.heap.size = B := by omega
  have n3 : ¬ w.heap.size = fb := by have : fb < w.heap.size := lf; omega
  have HH := Lib.hid h
  have HA := Lib.hid hA
  have HK := Lib.hid kA
  have HR := Lib.hid (And.intro hS (And.intro h0 (And.intro h1000 hfl)))
  clear hS h0 h1000 hfl h hA kA hf hx hxz hr lf lx lr lB
  refine callsD_of_wpS Tryz.func97 rfl fun c₀ cs hu => ?_
  have hlit : (#[.pointer (some ⟨fb, 0, none⟩), .pointer (some ⟨xb, 0, none⟩), .pointer (some ⟨rb, 0, none⟩)] ++ Array.replicate (Tryz.f97.ntmps - (#[.pointer (some ⟨fb, 0, none⟩), .pointer (some ⟨xb, 0, none⟩), .pointer (some ⟨rb, 0, none⟩)] : Array Value).size) undef : Array Value) = #[.pointer (some ⟨fb, 0, none⟩), .pointer (some ⟨xb, 0, none⟩), .pointer (some ⟨rb, 0, none⟩), undef, undef, undef, undef, undef, undef, undef, undef, undef, undef, undef, undef, undef, undef, undef, undef, undef, undef, undef, undef, undef, undef, undef, undef, undef, undef, undef, undef, undef] := by kernel_rfl
  rw [hlit]
  clear hlit
  apply wpS_seq
  apply wpS_region
  simp [wpOpsS, go_sem, recoverD, hu, gave, Exit.thenS]
  apply wpS_seq
  apply wpS_region
  simp [wpOpsS, go_sem, Exit.thenS]
  refine wpS_cond (t := true) (by simp [Act.eval]) ?_
  simp only [if_true]
  refine wpS_of_wp ?_
  clear hu
  have hta := assert_gave
  go_wp2
  refine wp_region_can [0, 1, 2, 3, 4, 5, 6, 7, 8, 9, 10, 11, 12, 13, 14, 15, 16, 17] [8, 11, 14, 17] [(5, 8), (6, 8), (5, 11), (6, 11)] (by kernel_rfl) (by kernel_rfl) (by kernel_rfl) (by kernel_rfl) (by intro c a d v w h; cases d <;> exact h) ?_
  repeat (refine can_sil rfl rfl (fun K hK => ?_); go_simp; refine hK _ ?_; clear hK K)
  refine can_loud [5, 6] rfl rfl rfl (fun K hK => ?_)
  go_wp2_with fail
  refine Mid.normal (hK _ _ ?_ ?_)
  · simp only [List.forall_mem_cons]
    refine ⟨?_, ?_, stabs_nil⟩ <;> exact stab_of rfl (fun K hK => by go_simp; exact hK)
  clear hK K
  repeat (refine can_sil rfl rfl (fun K hK => ?_); go_simp; refine hK _ ?_; clear hK K)
  refine can_loud [5, 6] rfl rfl rfl (fun K hK => ?_)
  go_wp2_with fail
  refine Mid.normal (hK _ _ ?_ ?_)
  · simp only [List.forall_mem_cons]
    refine ⟨?_, ?_, stabs_nil⟩ <;> exact stab_of rfl (fun K hK => by go_simp; exact hK)
  clear hK K
  repeat (refine can_sil rfl rfl (fun K hK => ?_); go_simp; refine hK _ ?_; clear hK K)
  refine can_loud [] rfl rfl rfl (fun K hK => ?_)
  go_wp2_with fail
  refine Mid.normal (hK _ _ stabs_nil ?_)
  clear hK K
  repeat (refine can_sil rfl rfl (fun K hK => ?_); go_simp; refine hK _ ?_; clear hK K)
  refine can_loud [] rfl rfl rfl (fun K hK => ?_)
  go_wp2_with fail
  refine Mid.normal (hK _ _ stabs_nil ?_)
  clear hK K
  refine can_nil ?_
  refine ⟨rfl, _, rfl, _, by simp [results, Tryz.results97], rfl, rfl, ?_, ?_, ?_⟩
  · go_simp
  · obtain ⟨hS, h0, h1000, hfl⟩ := HR
    have hA : RdrAt 141 _ B S v r := HA
    have := (((hA.other (i := 0) h2 hS (.int .u64 0)).setAt from' _ rfl hfl).setErr e h0 h1000).setSpot from' _ rfl hfl
    exact this.drewN 1
  · have kA : Keep No w (w.alloc (.cells #[.int .i64 e] 148)) := HK
    exact (((((kA.mono (N := Or2 (One xb) (One B)) fun _ _ x => x.elim).setCell (p := ⟨xb, 0, none⟩) (fun _ => .inl rfl) _).setCell (p := ⟨B, 1, none⟩) (fun _ => .inr rfl) _).setCell (p := ⟨B, 3, none⟩) (fun _ => .inr rfl) _).setCell (p := ⟨B, 4, none⟩) (fun _ => .inr rfl) _).drew
def ReadTo (T : TypeId) (w : World) (B : Nat) (S : Nat → Prop) (v : Value) (r : Rs) (z : Value) (o : (Value × Nat) ⊕ Int) (e : Ending) (w' : World) : Prop :=
  Keep (One B) w w' ∧
    match o with
    | .inl (x, k) => e = .returned x ∧ RdrAt T w' B S v (r.took k)
    | .inr x => e = .returned z ∧ RdrAt T w' B S v (r.fails x)
def OkO (E : Value → Prop) (r : Rs) : (Value × Nat) ⊕ Int → Prop
  | .inl (x, k) => r.at' + k ≤ r.b.length ∧ E x
  | .inr e => 0 ≤ e ∧ e < 1000
set_option maxRecDepth 20000 in
set_option maxHeartbeats 2000000 in
theorem read_u64 (w : World) (B : Nat) (S : Nat → Prop) (v : Value) (r : Rs) (h : RdrAt 141 w B S v r) (he : r.err = 0) (K : Nat) (fi ca : Array Value) (o : (Value × Nat) ⊕ Int) (ho : OkO (fun x => ∃ n, x = .int .u64 n) r o) (hK : ∀ (args : Array Value) (w : World), (callFunc K args).run Tryz.prog w = .ok (.enter K args) w)
    (htake : ∀ w1, Keep No w w1 → Calls Tryz.prog K (fi ++ ca) w1 (Takes 141 148 w1 B (fun k => S k ∧ k < w.heap.size) v r o)) :
    Calls Tryz.prog 67 #[.pointer (some ⟨B, 0, none⟩), .func (.func K) fi ca] w (ReadTo 141 w B S v r (.int .u64 0) o) := by
  have hmf : ∀ (fn : Fn) (first cap : Array Value) (w : World), (Instr.makeFunc fn first cap).run Tryz.prog w = .ok (.func fn first cap) w := fun _ _ _ _ => rfl
  have lB := h.lt
  have hl := h.live
  have g2 := (((Keep.refl No w).alloc (.cells #[.pointer (some ⟨B, 0, none⟩)] 109)).alloc (.cells #[.int .u64 0] 35))
  have h2 := hl.agree g2
  have b1 := blk_cell h2.blk 1
  have b3 := blk_cell h2.blk 3
  simp only [List.getElem?_toArray, List.getElem?_cons_succ, List.getElem?_cons_zero] at b1 b3
  rw [he] at b3
  have HH := Lib.hid h
  have HT := Lib.hid htake
  have HO := Lib.hid ho
  have HE := Lib.hid he
  have HL := Lib.hid hl
  clear h ho he htake hl g2 h2
  go_enter_defers Tryz.func67, Tryz.ntmps67
  go_wp2_with fail
  refine (HT _ (((Keep.refl No w).alloc (.cells #[.pointer (some ⟨B, 0, none⟩)] 109)).alloc (.cells #[.int .u64 0] 35) |>.alloc (.cells #[.int .i64 r.at'] 3))).mono ?_
  rintro e w2 ⟨a, hr2, hk2, hres⟩
  have hn : ∀ i, ¬ One B (w.heap.size + i) := fun i hh => by have : w.heap.size + i = B := hh; omega
  have x0 := hk2.blk (blk_alloc (blk_alloc (blk_new w (.cells #[.pointer (some ⟨B, 0, none⟩)] 109)))) (hn 0)
  have x1 := hk2.blk (blk_alloc (blk_new (w.alloc (.cells #[.pointer (some ⟨B, 0, none⟩)] 109)) (.cells #[.int .u64 0] 35))) (by simpa using hn 1)
  have x2 := hk2.blk (blk_new ((w.alloc (.cells #[.pointer (some ⟨B, 0, none⟩)] 109)).alloc (.cells #[.int .u64 0] 35)) (.cells #[.int .i64 r.at'] 3)) (by simpa using hn 2)
  simp only [World.size_alloc] at x1 x2
  have K2 : Keep (One B) w w2 := (((((Keep.refl (One B) w).alloc _).alloc _).alloc _).trans hk2)
  cases o with
  | inl o =>
    obtain ⟨x, k⟩ := o
    obtain ⟨rfl, ha⟩ := hres
    have ha : a = r.at' + k := ha
    obtain ⟨hok, n, rfl⟩ : r.at' + k ≤ r.b.length ∧ ∃ n, x = .int .u64 n := HO
    have f1 : ¬ w.heap.size = B := by omega
    have f2 : ¬ w.heap.size + 1 = B := by omega
    have f3 : ¬ w.heap.size + 1 + 1 = B := by omega
    have f4 : ¬ w.heap.size + 1 + 1 = w.heap.size + 1 := by omega
    have f5 : ¬ w.heap.size = w.heap.size + 1 := by omega
    have HX := Lib.hid (show ¬ (S (w.heap.size + 1) ∧ w.heap.size + 1 < w.heap.size) from fun hh => by omega)
    have HW := Lib.hid (show w.heap.size ≤ w.heap.size + 1 from by omega)
    have c0 := blk_cell x0 0
    have c1 := blk_cell x1 0
    have c2 := blk_cell x2 0
    have z1 := blk_fro x1 0
    have c3 := blk_cell hr2.blk 2
    have z3 := blk_fro hr2.blk 2
    simp only [List.getElem?_toArray, List.getElem?_cons_succ, List.getElem?_cons_zero] at c0 c1 c2 c3
    have HR2 := Lib.hid hr2
    have HK2 := Lib.hid K2
    have HX1 := Lib.hid x1
    clear b1 b3 hmf hK hk2 hr2 hn x0 x1 x2 K2 HT lB
    generalize w.heap.size + 1 + 1 = fb at c2 f3 f4 ⊢
    generalize w.heap.size + 1 = xb at c1 z1 f2 f4 f5 HX HX1 HW ⊢
    generalize hrb : w.heap.size = rb at c0 f1 f5 ⊢
    go_wp2
    refine leaves_cons (f := 97) (args := #[.pointer (some ⟨fb, 0, none⟩), .pointer (some ⟨xb, 0, none⟩), .pointer (some ⟨rb, 0, none⟩)]) (by simp) (by simp [go_sem]) ?_
    refine (catch_idle_u64 _ _ _ _).mono ?_
    rintro e u' w'' ⟨rfl, rfl, rfl⟩
    refine ⟨.int .u64 n, by simp [results, Tryz.results67, go_sem, c1], ?_, rfl, ?_⟩
    · exact ((keep_own (Keep.setNew (p := ⟨xb, 0, none⟩) HK2 HW _) 2 _).setNew (p := ⟨xb, 0, none⟩) HW _)
    · subst ha
      have hh : RdrAt 141 w2 B (fun k => S k ∧ k < w.heap.size) v { r with at' := r.at' + k } := HR2
      have hB : ¬ S B := RdrAt.nB (show RdrAt 141 w B S v r from HH)
      exact (((hh.other (i := 0) f2 HX (.int .u64 n)).setLast r.at' _ rfl (by show r.at' ≤ r.b.length; omega)).other (i := 0) f2 HX (.int .u64 n)).mono (fun _ _ hs => hs.1) hB
  | inr x =>
    obtain rfl := hres
    obtain ⟨x0', x1'⟩ : 0 ≤ x ∧ x < 1000 := HO
    have f1 : ¬ w.heap.size = B := by omega
    have f2 : ¬ w.heap.size + 1 = B := by omega
    have f3 : ¬ w.heap.size + 1 + 1 = B := by omega
    have f4 : ¬ w.heap.size + 1 + 1 = w.heap.size + 1 := by omega
    have f5 : ¬ w.heap.size = w.heap.size + 1 := by omega
    have HX : ¬ (S (w.heap.size + 1) ∧ w.heap.size + 1 < w.heap.size) := fun hh => by omega
    have HW : w.heap.size ≤ w.heap.size + 1 := by omega
    have c0 := blk_cell x0 0
    have c1 := blk_cell x1 0
    have c2 := blk_cell x2 0
    have z1 := blk_fro x1 0
    simp only [List.getElem?_toArray, List.getElem?_cons_succ, List.getElem?_cons_zero] at c0 c1 c2
    clear b1 b3 hmf hK hk2 hn HT lB
    generalize w.heap.size + 1 + 1 = fb at c2 f3 f4 x2 ⊢
    generalize w.heap.size + 1 = xb at c1 z1 f2 f4 f5 HX x1 HW ⊢
    generalize hrb : w.heap.size = rb at c0 f1 f5 x0 ⊢
    refine leaves_cons (f := 97) (args := #[.pointer (some ⟨fb, 0, none⟩), .pointer (some ⟨xb, 0, none⟩), .pointer (some ⟨rb, 0, none⟩)]) (by simp) (by simp [go_sem]) ?_
    have hat : r.at' ≤ r.b.length := (show RdrAt 141 w B S v r from HH).ok.at_le
    have hB : ¬ S B := RdrAt.nB (show RdrAt 141 w B S v r from HH)
    refine (catch_gave_u64 w2 B fb xb rb _ v _ r.at' x _ hr2 c2 c1 z1 c0 f3 f2 f1 f4 f5 HX x0' x1' hat).mono ?_
    rintro e u' w'' ⟨rfl, rfl, g1, g2, g3⟩
    refine ⟨.int .u64 0, by simp [results, Tryz.results67, go_sem, g1], ?_, rfl, ?_⟩
    · exact K2.then g3 fun i hi hh => hh.elim (fun e => by have : i = xb := e; omega) (fun e => e)
    · exact RdrAt.mono g2 (fun _ _ hs => hs.1) hB
end Go.Proofs.YtcallmnhaikfpaaGreatDoor
namespace Go.Proofs.YtcallmnhaikfpaaGreatDoor
open Go Go.RowKit Go.Deep
theorem catch_idle_u8 (p q s : Addr) (w : World) :
    CallsD Tryz.prog 115 #[.pointer (some p), .pointer (some q), .pointer (some s)] .returning w fun e u' w' => e = .returned (.tuple #[]) ∧ u' = .returning ∧ w' = w := by
  refine callsD_of_wpS Tryz.func115 rfl fun c₀ cs hu => ?_
  apply wpS_seq
  apply wpS_region
  simp [wpOpsS, go_sem, recoverD, hu, Tryz.ntmps115, Exit.thenS]
  apply wpS_seq
  apply wpS_region
  simp [wpOpsS, go_sem, Exit.thenS]
  refine wpS_cond (t := false) (by simp [Act.eval, Array.replicate]) ?_
  simp only [Bool.false_eq_true, if_false]
  refine wpS_of_wp (wp_skip ?_)
  cases c₀
  simp_all [bodyPostS, results, Tryz.results115]
set_option maxRecDepth 20000 in
theorem catch_gave_u8 (w : World) (B fb xb rb : Nat) (S : Nat → Prop) (v : Value) (r : Rs) (from' : Nat) (e : Int) (z0 : Value) (h : RdrAt 141 w B S v r)
    (hf : w.cell? ⟨fb, 0, none⟩ = some (.int .i64 from')) (hx : w.cell? ⟨xb, 0, none⟩ = some z0) (hxz : w.frozen? ⟨xb, 0, none⟩ = false) (hr : w.cell? ⟨rb, 0, none⟩ = some (.pointer (some ⟨B, 0, none⟩)))
    (h1 : ¬ fb = B) (h2 : ¬ xb = B) (h3 : ¬ rb = B) (h4 : ¬ fb = xb) (h5 : ¬ rb = xb) (hS : ¬ S xb) (h0 : 0 ≤ e) (h1000 : e < 1000) (hfl : from' ≤ r.b.length) :
    CallsD Tryz.prog 115 #[.pointer (some ⟨fb, 0, none⟩), .pointer (some ⟨xb, 0, none⟩), .pointer (some ⟨rb, 0, none⟩)] (.panicking (gave 148 e)) w fun en u' w' =>
      en = .returned (.tuple #[]) ∧ u' = .panicking [{ v := .iface 148 (.agg #[.int .i64 e]), recovered := true }] ∧ w'.cell? ⟨xb, 0, none⟩ = some (.int .u8 0) ∧ RdrAt 141 w' B S v { r with at' := from', err := e, spot := from' } ∧ Keep (Or2 (One xb) (One B)) w w' := by
  have lf := World.block_lt_of_cell? _ _ hf
  have lx := World.block_lt_of_cell? _ _ hx
  have lr := World.block_lt_of_cell? _ _ hr
  have lB := h.lt
  have kA : Keep No w (w.alloc (.cells #[.int .i64 e] 148)) := (Keep.refl No w).alloc _
  have hfA := (kA.cell lf (o := 0) (fun x => x)).trans hf
  have hxA := (kA.cell lx (o := 0) (fun x => x)).trans hx
  have hxzA := (kA.frozen lx (o := 0) (fun x => x)).trans hxz
  have hrA := (kA.cell lr (o := 0) (fun x => x)).trans hr
  have hA := h.agree kA
  have b1 := blk_cell hA.blk 1
  have b3 := blk_cell hA.blk 3
  have b4 := blk_cell hA.blk 4
  have z1 := blk_fro hA.blk 1
  have z3 := blk_fro hA.blk 3
  have z4 := blk_fro hA.blk 4
  simp only [List.getElem?_toArray, List.getElem?_cons_succ, List.getElem?_cons_zero] at b1 b3 b4
  have n1 : ¬ w.heap.size = xb := by have : xb < w.heap.size := lx; omega
  have n2 : ¬ w.heap.size = B := by omega
  have n3 : ¬ w.heap.size = fb := by have : fb < w.heap.size := lf; omega
  have HH := Lib.hid h
  have HA := Lib.hid hA
  have HK := Lib.hid kA
  have HR := Lib.hid (And.intro hS (And.intro h0 (And.intro h1000 hfl)))
  clear hS h0 h1000 hfl h hA kA hf hx hxz hr lf lx lr lB
  refine callsD_of_wpS Tryz.func115 rfl fun c₀ cs hu => ?_
  have hlit : (#[.pointer (some ⟨fb, 0, none⟩), .pointer (some ⟨xb, 0, none⟩), .pointer (some ⟨rb, 0, none⟩)] ++ Array.replicate (Tryz.f115.ntmps - (#[.pointer (some ⟨fb, 0, none⟩), .pointer (some ⟨xb, 0, none⟩), .pointer (some ⟨rb, 0, none⟩)] : Array Value).size) undef : Array Value) = #[.pointer (some ⟨fb, 0, none⟩), .pointer (some ⟨xb, 0, none⟩), .pointer (some ⟨rb, 0, none⟩), undef, undef, undef, undef, undef, undef, undef, undef, undef, undef, undef, undef, undef, undef, undef, undef, undef, undef, undef, undef, undef, undef, undef, undef, undef, undef, undef, undef, undef] := by kernel_rfl
  rw [hlit]
  clear hlit
  apply wpS_seq
  apply wpS_region
  simp [wpOpsS, go_sem, recoverD, hu, gave, Exit.thenS]
  apply wpS_seq
  apply wpS_region
  simp [wpOpsS, go_sem, Exit.thenS]
  refine wpS_cond (t := true) (by simp [Act.eval]) ?_
  simp only [if_true]
  refine wpS_of_wp ?_
  clear hu
  have hta := assert_gave
  go_wp2
  refine wp_region_can [0, 1, 2, 3, 4, 5, 6, 7, 8, 9, 10, 11, 12, 13, 14, 15, 16, 17] [8, 11, 14, 17] [(5, 8), (6, 8), (5, 11), (6, 11)] (by kernel_rfl) (by kernel_rfl) (by kernel_rfl) (by kernel_rfl) (by intro c a d v w h; cases d <;> exact h) ?_
  repeat (refine can_sil rfl rfl (fun K hK => ?_); go_simp; refine hK _ ?_; clear hK K)
  refine can_loud [5, 6] rfl rfl rfl (fun K hK => ?_)
  go_wp2_with fail
  refine Mid.normal (hK _ _ ?_ ?_)
  · simp only [List.forall_mem_cons]
    refine ⟨?_, ?_, stabs_nil⟩ <;> exact stab_of rfl (fun K hK => by go_simp; exact hK)
  clear hK K
  repeat (refine can_sil rfl rfl (fun K hK => ?_); go_simp; refine hK _ ?_; clear hK K)
  refine can_loud [5, 6] rfl rfl rfl (fun K hK => ?_)
  go_wp2_with fail
  refine Mid.normal (hK _ _ ?_ ?_)
  · simp only [List.forall_mem_cons]
    refine ⟨?_, ?_, stabs_nil⟩ <;> exact stab_of rfl (fun K hK => by go_simp; exact hK)
  clear hK K
  repeat (refine can_sil rfl rfl (fun K hK => ?_); go_simp; refine hK _ ?_; clear hK K)
  refine can_loud [] rfl rfl rfl (fun K hK => ?_)
  go_wp2_with fail
  refine Mid.normal (hK _ _ stabs_nil ?_)
  clear hK K
  repeat (refine can_sil rfl rfl (fun K hK => ?_); go_simp; refine hK _ ?_; clear hK K)
  refine can_loud [] rfl rfl rfl (fun K hK => ?_)
  go_wp2_with fail
  refine Mid.normal (hK _ _ stabs_nil ?_)
  clear hK K
  refine can_nil ?_
  refine ⟨rfl, _, rfl, _, by simp [results, Tryz.results115], rfl, rfl, ?_, ?_, ?_⟩
  · go_simp
  · obtain ⟨hS, h0, h1000, hfl⟩ := HR
    have hA : RdrAt 141 _ B S v r := HA
    have := (((hA.other (i := 0) h2 hS (.int .u8 0)).setAt from' _ rfl hfl).setErr e h0 h1000).setSpot from' _ rfl hfl
    exact this.drewN 1
  · have kA : Keep No w (w.alloc (.cells #[.int .i64 e] 148)) := HK
    exact (((((kA.mono (N := Or2 (One xb) (One B)) fun _ _ x => x.elim).setCell (p := ⟨xb, 0, none⟩) (fun _ => .inl rfl) _).setCell (p := ⟨B, 1, none⟩) (fun _ => .inr rfl) _).setCell (p := ⟨B, 3, none⟩) (fun _ => .inr rfl) _).setCell (p := ⟨B, 4, none⟩) (fun _ => .inr rfl) _).drew
set_option maxRecDepth 20000 in
set_option maxHeartbeats 2000000 in
theorem read_u8 (w : World) (B : Nat) (S : Nat → Prop) (v : Value) (r : Rs) (h : RdrAt 141 w B S v r) (he : r.err = 0) (K : Nat) (fi ca : Array Value) (o : (Value × Nat) ⊕ Int) (ho : OkO (fun x => ∃ n, x = .int .u8 n) r o) (hK : ∀ (args : Array Value) (w : World), (callFunc K args).run Tryz.prog w = .ok (.enter K args) w)
    (htake : ∀ w1, Keep No w w1 → Calls Tryz.prog K (fi ++ ca) w1 (Takes 141 148 w1 B (fun k => S k ∧ k < w.heap.size) v r o)) :
    Calls Tryz.prog 101 #[.pointer (some ⟨B, 0, none⟩), .func (.func K) fi ca] w (ReadTo 141 w B S v r (.int .u8 0) o) := by
  have hmf : ∀ (fn : Fn) (first cap : Array Value) (w : World), (Instr.makeFunc fn first cap).run Tryz.prog w = .ok (.func fn first cap) w := fun _ _ _ _ => rfl
  have lB := h.lt
  have hl := h.live
  have g2 := (((Keep.refl No w).alloc (.cells #[.pointer (some ⟨B, 0, none⟩)] 109)).alloc (.cells #[.int .u8 0] 5))
  have h2 := hl.agree g2
  have b1 := blk_cell h2.blk 1
  have b3 := blk_cell h2.blk 3
  simp only [List.getElem?_toArray, List.getElem?_cons_succ, List.getElem?_cons_zero] at b1 b3
  rw [he] at b3
  have HH := Lib.hid h
  have HT := Lib.hid htake
  have HO := Lib.hid ho
  have HE := Lib.hid he
  have HL := Lib.hid hl
  clear h ho he htake hl g2 h2
  go_enter_defers Tryz.func101, Tryz.ntmps101
  go_wp2_with fail
  refine (HT _ (((Keep.refl No w).alloc (.cells #[.pointer (some ⟨B, 0, none⟩)] 109)).alloc (.cells #[.int .u8 0] 5) |>.alloc (.cells #[.int .i64 r.at'] 3))).mono ?_
  rintro e w2 ⟨a, hr2, hk2, hres⟩
  have hn : ∀ i, ¬ One B (w.heap.size + i) := fun i hh => by have : w.heap.size + i = B := hh; omega
  have x0 := hk2.blk (blk_alloc (blk_alloc (blk_new w (.cells #[.pointer (some ⟨B, 0, none⟩)] 109)))) (hn 0)
  have x1 := hk2.blk (blk_alloc (blk_new (w.alloc (.cells #[.pointer (some ⟨B, 0, none⟩)] 109)) (.cells #[.int .u8 0] 5))) (by simpa using hn 1)
  have x2 := hk2.blk (blk_new ((w.alloc (.cells #[.pointer (some ⟨B, 0, none⟩)] 109)).alloc (.cells #[.int .u8 0] 5)) (.cells #[.int .i64 r.at'] 3)) (by simpa using hn 2)
  simp only [World.size_alloc] at x1 x2
  have K2 : Keep (One B) w w2 := (((((Keep.refl (One B) w).alloc _).alloc _).alloc _).trans hk2)
  cases o with
  | inl o =>
    obtain ⟨x, k⟩ := o
    obtain ⟨rfl, ha⟩ := hres
    have ha : a = r.at' + k := ha
    obtain ⟨hok, n, rfl⟩ : r.at' + k ≤ r.b.length ∧ ∃ n, x = .int .u8 n := HO
    have f1 : ¬ w.heap.size = B := by omega
    have f2 : ¬ w.heap.size + 1 = B := by omega
    have f3 : ¬ w.heap.size + 1 + 1 = B := by omega
    have f4 : ¬ w.heap.size + 1 + 1 = w.heap.size + 1 := by omega
    have f5 : ¬ w.heap.size = w.heap.size + 1 := by omega
    have HX := Lib.hid (show ¬ (S (w.heap.size + 1) ∧ w.heap.size + 1 < w.heap.size) from fun hh => by omega)
    have HW := Lib.hid (show w.heap.size ≤ w.heap.size + 1 from by omega)
    have c0 := blk_cell x0 0
    have c1 := blk_cell x1 0
    have c2 := blk_cell x2 0
    have z1 := blk_fro x1 0
    have c3 := blk_cell hr2.blk 2
    have z3 := blk_fro hr2.blk 2
    simp only [List.getElem?_toArray, List.getElem?_cons_succ, List.getElem?_cons_zero] at c0 c1 c2 c3
    have HR2 := Lib.hid hr2
    have HK2 := Lib.hid K2
    have HX1 := Lib.hid x1
    clear b1 b3 hmf hK hk2 hr2 hn x0 x1 x2 K2 HT lB
    generalize w.heap.size + 1 + 1 = fb at c2 f3 f4 ⊢
    generalize w.heap.size + 1 = xb at c1 z1 f2 f4 f5 HX HX1 HW ⊢
    generalize hrb : w.heap.size = rb at c0 f1 f5 ⊢
    go_wp2
    refine leaves_cons (f := 115) (args := #[.pointer (some ⟨fb, 0, none⟩), .pointer (some ⟨xb, 0, none⟩), .pointer (some ⟨rb, 0, none⟩)]) (by simp) (by simp [go_sem]) ?_
    refine (catch_idle_u8 _ _ _ _).mono ?_
    rintro e u' w'' ⟨rfl, rfl, rfl⟩
    refine ⟨.int .u8 n, by simp [results, Tryz.results101, go_sem, c1], ?_, rfl, ?_⟩
    · exact ((keep_own (Keep.setNew (p := ⟨xb, 0, none⟩) HK2 HW _) 2 _).setNew (p := ⟨xb, 0, none⟩) HW _)
    · subst ha
      have hh : RdrAt 141 w2 B (fun k => S k ∧ k < w.heap.size) v { r with at' := r.at' + k } := HR2
      have hB : ¬ S B := RdrAt.nB (show RdrAt 141 w B S v r from HH)
      exact (((hh.other (i := 0) f2 HX (.int .u8 n)).setLast r.at' _ rfl (by show r.at' ≤ r.b.length; omega)).other (i := 0) f2 HX (.int .u8 n)).mono (fun _ _ hs => hs.1) hB
  | inr x =>
    obtain rfl := hres
    obtain ⟨x0', x1'⟩ : 0 ≤ x ∧ x < 1000 := HO
    have f1 : ¬ w.heap.size = B := by omega
    have f2 : ¬ w.heap.size + 1 = B := by omega
    have f3 : ¬ w.heap.size + 1 + 1 = B := by omega
    have f4 : ¬ w.heap.size + 1 + 1 = w.heap.size + 1 := by omega
    have f5 : ¬ w.heap.size = w.heap.size + 1 := by omega
    have HX : ¬ (S (w.heap.size + 1) ∧ w.heap.size + 1 < w.heap.size) := fun hh => by omega
    have HW : w.heap.size ≤ w.heap.size + 1 := by omega
    have c0 := blk_cell x0 0
    have c1 := blk_cell x1 0
    have c2 := blk_cell x2 0
    have z1 := blk_fro x1 0
    simp only [List.getElem?_toArray, List.getElem?_cons_succ, List.getElem?_cons_zero] at c0 c1 c2
    clear b1 b3 hmf hK hk2 hn HT lB
    generalize w.heap.size + 1 + 1 = fb at c2 f3 f4 x2 ⊢
    generalize w.heap.size + 1 = xb at c1 z1 f2 f4 f5 HX x1 HW ⊢
    generalize hrb : w.heap.size = rb at c0 f1 f5 x0 ⊢
    refine leaves_cons (f := 115) (args := #[.pointer (some ⟨fb, 0, none⟩), .pointer (some ⟨xb, 0, none⟩), .pointer (some ⟨rb, 0, none⟩)]) (by simp) (by simp [go_sem]) ?_
    have hat : r.at' ≤ r.b.length := (show RdrAt 141 w B S v r from HH).ok.at_le
    have hB : ¬ S B := RdrAt.nB (show RdrAt 141 w B S v r from HH)
    refine (catch_gave_u8 w2 B fb xb rb _ v _ r.at' x _ hr2 c2 c1 z1 c0 f3 f2 f1 f4 f5 HX x0' x1' hat).mono ?_
    rintro e u' w'' ⟨rfl, rfl, g1, g2, g3⟩
    refine ⟨.int .u8 0, by simp [results, Tryz.results101, go_sem, g1], ?_, rfl, ?_⟩
    · exact K2.then g3 fun i hi hh => hh.elim (fun e => by have : i = xb := e; omega) (fun e => e)
    · exact RdrAt.mono g2 (fun _ _ hs => hs.1) hB
theorem catch_idle_str (p q s : Addr) (w : World) :
    CallsD Tryz.prog 100 #[.pointer (some p), .pointer (some q), .pointer (some s)] .returning w fun e u' w' => e = .returned (.tuple #[]) ∧ u' = .returning ∧ w' = w := by
  refine callsD_of_wpS Tryz.func100 rfl fun c₀ cs hu => ?_
  apply wpS_seq
  apply wpS_region
  simp [wpOpsS, go_sem, recoverD, hu, Tryz.ntmps100, Exit.thenS]
  apply wpS_seq
  apply wpS_region
  simp [wpOpsS, go_sem, Exit.thenS]
  refine wpS_cond (t := false) (by simp [Act.eval, Array.replicate]) ?_
  simp only [Bool.false_eq_true, if_false]
  refine wpS_of_wp (wp_skip ?_)
  cases c₀
  simp_all [bodyPostS, results, Tryz.results100]
set_option maxRecDepth 20000 in
theorem catch_gave_str (w : World) (B fb xb rb : Nat) (S : Nat → Prop) (v : Value) (r : Rs) (from' : Nat) (e : Int) (z0 : Value) (h : RdrAt 141 w B S v r)
    (hf : w.cell? ⟨fb, 0, none⟩ = some (.int .i64 from')) (hx : w.cell? ⟨xb, 0, none⟩ = some z0) (hxz : w.frozen? ⟨xb, 0, none⟩ = false) (hr : w.cell? ⟨rb, 0, none⟩ = some (.pointer (some ⟨B, 0, none⟩)))
    (h1 : ¬ fb = B) (h2 : ¬ xb = B) (h3 : ¬ rb = B) (h4 : ¬ fb = xb) (h5 : ¬ rb = xb) (hS : ¬ S xb) (h0 : 0 ≤ e) (h1000 : e < 1000) (hfl : from' ≤ r.b.length) :
    CallsD Tryz.prog 100 #[.pointer (some ⟨fb, 0, none⟩), .pointer (some ⟨xb, 0, none⟩), .pointer (some ⟨rb, 0, none⟩)] (.panicking (gave 148 e)) w fun en u' w' =>
      en = .returned (.tuple #[]) ∧ u' = .panicking [{ v := .iface 148 (.agg #[.int .i64 e]), recovered := true }] ∧ w'.cell? ⟨xb, 0, none⟩ = some (.string ⟨#[]⟩) ∧ RdrAt 141 w' B S v { r with at' := from', err := e, spot := from' } ∧ Keep (Or2 (One xb) (One B)) w w' := by
  have lf := World.block_lt_of_cell? _ _ hf
  have lx := World.block_lt_of_cell? _ _ hx
  have lr := World.block_lt_of_cell? _ _ hr
  have lB := h.lt
  have kA : Keep No w (w.alloc (.cells #[.int .i64 e] 148)) := (Keep.refl No w).alloc _
  have hfA := (kA.cell lf (o := 0) (fun x => x)).trans hf
  have hxA := (kA.cell lx (o := 0) (fun x => x)).trans hx
  have hxzA := (kA.frozen lx (o := 0) (fun x => x)).trans hxz
  have hrA := (kA.cell lr (o := 0) (fun x => x)).trans hr
  have hA := h.agree kA
  have b1 := blk_cell hA.blk 1
  have b3 := blk_cell hA.blk 3
  have b4 := blk_cell hA.blk 4
  have z1 := blk_fro hA.blk 1
  have z3 := blk_fro hA.blk 3
  have z4 := blk_fro hA.blk 4
  simp only [List.getElem?_toArray, List.getElem?_cons_succ, List.getElem?_cons_zero] at b1 b3 b4
  have n1 : ¬ w.heap.size = xb := by have : xb < w.heap.size := lx; omega
  have n2 : ¬ w.heap.size = B := by omega
  have n3 : ¬ w.heap.size = fb := by have : fb < w.heap.size := lf; omega
  have HH := Lib.hid h
  have HA := Lib.hid hA
  have HK := Lib.hid kA
  have HR := Lib.hid (And.intro hS (And.intro h0 (And.intro h1000 hfl)))
  clear hS h0 h1000 hfl h hA kA hf hx hxz hr lf lx lr lB
  refine callsD_of_wpS Tryz.func100 rfl fun c₀ cs hu => ?_
  have hlit : (#[.pointer (some ⟨fb, 0, none⟩), .pointer (some ⟨xb, 0, none⟩), .pointer (some ⟨rb, 0, none⟩)] ++ Array.replicate (Tryz.f100.ntmps - (#[.pointer (some ⟨fb, 0, none⟩), .pointer (some ⟨xb, 0, none⟩), .pointer (some ⟨rb, 0, none⟩)] : Array Value).size) undef : Array Value) = #[.pointer (some ⟨fb, 0, none⟩), .pointer (some ⟨xb, 0, none⟩), .pointer (some ⟨rb, 0, none⟩), undef, undef, undef, undef, undef, undef, undef, undef, undef, undef, undef, undef, undef, undef, undef, undef, undef, undef, undef, undef, undef, undef, undef, undef, undef, undef, undef, undef, undef] := by kernel_rfl
  rw [hlit]
  clear hlit
  apply wpS_seq
  apply wpS_region
  simp [wpOpsS, go_sem, recoverD, hu, gave, Exit.thenS]
  apply wpS_seq
  apply wpS_region
  simp [wpOpsS, go_sem, Exit.thenS]
  refine wpS_cond (t := true) (by simp [Act.eval]) ?_
  simp only [if_true]
  refine wpS_of_wp ?_
  clear hu
  have hta := assert_gave
  go_wp2
  refine wp_region_can [0, 1, 2, 3, 4, 5, 6, 7, 8, 9, 10, 11, 12, 13, 14, 15, 16, 17] [8, 11, 14, 17] [(5, 8), (6, 8), (5, 11), (6, 11)] (by kernel_rfl) (by kernel_rfl) (by kernel_rfl) (by kernel_rfl) (by intro c a d v w h; cases d <;> exact h) ?_
  repeat (refine can_sil rfl rfl (fun K hK => ?_); go_simp; refine hK _ ?_; clear hK K)
  refine can_loud [5, 6] rfl rfl rfl (fun K hK => ?_)
  go_wp2_with fail
  refine Mid.normal (hK _ _ ?_ ?_)
  · simp only [List.forall_mem_cons]
    refine ⟨?_, ?_, stabs_nil⟩ <;> exact stab_of rfl (fun K hK => by go_simp; exact hK)
  clear hK K
  repeat (refine can_sil rfl rfl (fun K hK => ?_); go_simp; refine hK _ ?_; clear hK K)
  refine can_loud [5, 6] rfl rfl rfl (fun K hK => ?_)
  go_wp2_with fail
  refine Mid.normal (hK _ _ ?_ ?_)
  · simp only [List.forall_mem_cons]
    refine ⟨?_, ?_, stabs_nil⟩ <;> exact stab_of rfl (fun K hK => by go_simp; exact hK)
  clear hK K
  repeat (refine can_sil rfl rfl (fun K hK => ?_); go_simp; refine hK _ ?_; clear hK K)
  refine can_loud [] rfl rfl rfl (fun K hK => ?_)
  go_wp2_with fail
  refine Mid.normal (hK _ _ stabs_nil ?_)
  clear hK K
  repeat (refine can_sil rfl rfl (fun K hK => ?_); go_simp; refine hK _ ?_; clear hK K)
  refine can_loud [] rfl rfl rfl (fun K hK => ?_)
  go_wp2_with fail
  refine Mid.normal (hK _ _ stabs_nil ?_)
  clear hK K
  refine can_nil ?_
  refine ⟨rfl, _, rfl, _, by simp [results, Tryz.results100], rfl, rfl, ?_, ?_, ?_⟩
  · go_simp
  · obtain ⟨hS, h0, h1000, hfl⟩ := HR
    have hA : RdrAt 141 _ B S v r := HA
    have := (((hA.other (i := 0) h2 hS (.string ⟨#[]⟩)).setAt from' _ rfl hfl).setErr e h0 h1000).setSpot from' _ rfl hfl
    exact this.drewN 1
  · have kA : Keep No w (w.alloc (.cells #[.int .i64 e] 148)) := HK
    exact (((((kA.mono (N := Or2 (One xb) (One B)) fun _ _ x => x.elim).setCell (p := ⟨xb, 0, none⟩) (fun _ => .inl rfl) _).setCell (p := ⟨B, 1, none⟩) (fun _ => .inr rfl) _).setCell (p := ⟨B, 3, none⟩) (fun _ => .inr rfl) _).setCell (p := ⟨B, 4, none⟩) (fun _ => .inr rfl) _).drew
set_option maxRecDepth 20000 in
set_option maxHeartbeats 2000000 in
theorem read_str (w : World) (B : Nat) (S : Nat → Prop) (v : Value) (r : Rs) (h : RdrAt 141 w B S v r) (he : r.err = 0) (K : Nat) (fi ca : Array Value) (o : (Value × Nat) ⊕ Int) (ho : OkO (fun x => ∃ n, x = .string n) r o) (hK : ∀ (args : Array Value) (w : World), (callFunc K args).run Tryz.prog w = .ok (.enter K args) w)
    (htake : ∀ w1, Keep No w w1 → Calls Tryz.prog K (fi ++ ca) w1 (Takes 141 148 w1 B (fun k => S k ∧ k < w.heap.size) v r o)) :
    Calls Tryz.prog 72 #[.pointer (some ⟨B, 0, none⟩), .func (.func K) fi ca] w (ReadTo 141 w B S v r (.string ⟨#[]⟩) o) := by
  have hmf : ∀ (fn : Fn) (first cap : Array Value) (w : World), (Instr.makeFunc fn first cap).run Tryz.prog w = .ok (.func fn first cap) w := fun _ _ _ _ => rfl
  have lB := h.lt
  have hl := h.live
  have g2 := (((Keep.refl No w).alloc (.cells #[.pointer (some ⟨B, 0, none⟩)] 109)).alloc (.cells #[.string ⟨#[]⟩] 9))
  have h2 := hl.agree g2
  have b1 := blk_cell h2.blk 1
  have b3 := blk_cell h2.blk 3
  simp only [List.getElem?_toArray, List.getElem?_cons_succ, List.getElem?_cons_zero] at b1 b3
  rw [he] at b3
  have HH := Lib.hid h
  have HT := Lib.hid htake
  have HO := Lib.hid ho
  have HE := Lib.hid he
  have HL := Lib.hid hl
  clear h ho he htake hl g2 h2
  go_enter_defers Tryz.func72, Tryz.ntmps72
  go_wp2_with fail
  refine (HT _ (((Keep.refl No w).alloc (.cells #[.pointer (some ⟨B, 0, none⟩)] 109)).alloc (.cells #[.string ⟨#[]⟩] 9) |>.alloc (.cells #[.int .i64 r.at'] 3))).mono ?_
  rintro e w2 ⟨a, hr2, hk2, hres⟩
  have hn : ∀ i, ¬ One B (w.heap.size + i) := fun i hh => by have : w.heap.size + i = B := hh; omega
  have x0 := hk2.blk (blk_alloc (blk_alloc (blk_new w (.cells #[.pointer (some ⟨B, 0, none⟩)] 109)))) (hn 0)
  have x1 := hk2.blk (blk_alloc (blk_new (w.alloc (.cells #[.pointer (some ⟨B, 0, none⟩)] 109)) (.cells #[.string ⟨#[]⟩] 9))) (by simpa using hn 1)
  have x2 := hk2.blk (blk_new ((w.alloc (.cells #[.pointer (some ⟨B, 0, none⟩)] 109)).alloc (.cells #[.string ⟨#[]⟩] 9)) (.cells #[.int .i64 r.at'] 3)) (by simpa using hn 2)
  simp only [World.size_alloc] at x1 x2
  have K2 : Keep (One B) w w2 := (((((Keep.refl (One B) w).alloc _).alloc _).alloc _).trans hk2)
  cases o with
  | inl o =>
    obtain ⟨x, k⟩ := o
    obtain ⟨rfl, ha⟩ := hres
    have ha : a = r.at' + k := ha
    obtain ⟨hok, n, rfl⟩ : r.at' + k ≤ r.b.length ∧ ∃ n, x = .string n := HO
    have f1 : ¬ w.heap.size = B := by omega
    have f2 : ¬ w.heap.size + 1 = B := by omega
    have f3 : ¬ w.heap.size + 1 + 1 = B := by omega
    have f4 : ¬ w.heap.size + 1 + 1 = w.heap.size + 1 := by omega
    have f5 : ¬ w.heap.size = w.heap.size + 1 := by omega
    have HX := Lib.hid (show ¬ (S (w.heap.size + 1) ∧ w.heap.size + 1 < w.heap.size) from fun hh => by omega)
    have HW := Lib.hid (show w.heap.size ≤ w.heap.size + 1 from by omega)
    have c0 := blk_cell x0 0
    have c1 := blk_cell x1 0
    have c2 := blk_cell x2 0
    have z1 := blk_fro x1 0
    have c3 := blk_cell hr2.blk 2
    have z3 := blk_fro hr2.blk 2
    simp only [List.getElem?_toArray, List.getElem?_cons_succ, List.getElem?_cons_zero] at c0 c1 c2 c3
    have HR2 := Lib.hid hr2
    have HK2 := Lib.hid K2
    have HX1 := Lib.hid x1
    clear b1 b3 hmf hK hk2 hr2 hn x0 x1 x2 K2 HT lB
    generalize w.heap.size + 1 + 1 = fb at c2 f3 f4 ⊢
    generalize w.heap.size + 1 = xb at c1 z1 f2 f4 f5 HX HX1 HW ⊢
    generalize hrb : w.heap.size = rb at c0 f1 f5 ⊢
    go_wp2
    refine leaves_cons (f := 100) (args := #[.pointer (some ⟨fb, 0, none⟩), .pointer (some ⟨xb, 0, none⟩), .pointer (some ⟨rb, 0, none⟩)]) (by simp) (by simp [go_sem]) ?_
    refine (catch_idle_str _ _ _ _).mono ?_
    rintro e u' w'' ⟨rfl, rfl, rfl⟩
    refine ⟨.string n, by simp [results, Tryz.results72, go_sem, c1], ?_, rfl, ?_⟩
    · exact ((keep_own (Keep.setNew (p := ⟨xb, 0, none⟩) HK2 HW _) 2 _).setNew (p := ⟨xb, 0, none⟩) HW _)
    · subst ha
      have hh : RdrAt 141 w2 B (fun k => S k ∧ k < w.heap.size) v { r with at' := r.at' + k } := HR2
      have hB : ¬ S B := RdrAt.nB (show RdrAt 141 w B S v r from HH)
      exact (((hh.other (i := 0) f2 HX (.string n)).setLast r.at' _ rfl (by show r.at' ≤ r.b.length; omega)).other (i := 0) f2 HX (.string n)).mono (fun _ _ hs => hs.1) hB
  | inr x =>
    obtain rfl := hres
    obtain ⟨x0', x1'⟩ : 0 ≤ x ∧ x < 1000 := HO
    have f1 : ¬ w.heap.size = B := by omega
    have f2 : ¬ w.heap.size + 1 = B := by omega
    have f3 : ¬ w.heap.size + 1 + 1 = B := by omega
    have f4 : ¬ w.heap.size + 1 + 1 = w.heap.size + 1 := by omega
    have f5 : ¬ w.heap.size = w.heap.size + 1 := by omega
    have HX : ¬ (S (w.heap.size + 1) ∧ w.heap.size + 1 < w.heap.size) := fun hh => by omega
    have HW : w.heap.size ≤ w.heap.size + 1 := by omega
    have c0 := blk_cell x0 0
    have c1 := blk_cell x1 0
    have c2 := blk_cell x2 0
    have z1 := blk_fro x1 0
    simp only [List.getElem?_toArray, List.getElem?_cons_succ, List.getElem?_cons_zero] at c0 c1 c2
    clear b1 b3 hmf hK hk2 hn HT lB
    generalize w.heap.size + 1 + 1 = fb at c2 f3 f4 x2 ⊢
    generalize w.heap.size + 1 = xb at c1 z1 f2 f4 f5 HX x1 HW ⊢
    generalize hrb : w.heap.size = rb at c0 f1 f5 x0 ⊢
    refine leaves_cons (f := 100) (args := #[.pointer (some ⟨fb, 0, none⟩), .pointer (some ⟨xb, 0, none⟩), .pointer (some ⟨rb, 0, none⟩)]) (by simp) (by simp [go_sem]) ?_
    have hat : r.at' ≤ r.b.length := (show RdrAt 141 w B S v r from HH).ok.at_le
    have hB : ¬ S B := RdrAt.nB (show RdrAt 141 w B S v r from HH)
    refine (catch_gave_str w2 B fb xb rb _ v _ r.at' x _ hr2 c2 c1 z1 c0 f3 f2 f1 f4 f5 HX x0' x1' hat).mono ?_
    rintro e u' w'' ⟨rfl, rfl, g1, g2, g3⟩
    refine ⟨.string ⟨#[]⟩, by simp [results, Tryz.results72, go_sem, g1], ?_, rfl, ?_⟩
    · exact K2.then g3 fun i hi hh => hh.elim (fun e => by have : i = xb := e; omega) (fun e => e)
    · exact RdrAt.mono g2 (fun _ _ hs => hs.1) hB
theorem catch_idle_cnt (p q s : Addr) (w : World) :
    CallsD Tryz.prog 99 #[.pointer (some p), .pointer (some q), .pointer (some s)] .returning w fun e u' w' => e = .returned (.tuple #[]) ∧ u' = .returning ∧ w' = w := by
  refine callsD_of_wpS Tryz.func99 rfl fun c₀ cs hu => ?_
  apply wpS_seq
  apply wpS_region
  simp [wpOpsS, go_sem, recoverD, hu, Tryz.ntmps99, Exit.thenS]
  apply wpS_seq
  apply wpS_region
  simp [wpOpsS, go_sem, Exit.thenS]
  refine wpS_cond (t := false) (by simp [Act.eval, Array.replicate]) ?_
  simp only [Bool.false_eq_true, if_false]
  refine wpS_of_wp (wp_skip ?_)
  cases c₀
  simp_all [bodyPostS, results, Tryz.results99]
set_option maxRecDepth 20000 in
theorem catch_gave_cnt (w : World) (B fb xb rb : Nat) (S : Nat → Prop) (v : Value) (r : Rs) (from' : Nat) (e : Int) (z0 : Value) (h : RdrAt 141 w B S v r)
    (hf : w.cell? ⟨fb, 0, none⟩ = some (.int .i64 from')) (hx : w.cell? ⟨xb, 0, none⟩ = some z0) (hxz : w.frozen? ⟨xb, 0, none⟩ = false) (hr : w.cell? ⟨rb, 0, none⟩ = some (.pointer (some ⟨B, 0, none⟩)))
    (h1 : ¬ fb = B) (h2 : ¬ xb = B) (h3 : ¬ rb = B) (h4 : ¬ fb = xb) (h5 : ¬ rb = xb) (hS : ¬ S xb) (h0 : 0 ≤ e) (h1000 : e < 1000) (hfl : from' ≤ r.b.length) :
    CallsD Tryz.prog 99 #[.pointer (some ⟨fb, 0, none⟩), .pointer (some ⟨xb, 0, none⟩), .pointer (some ⟨rb, 0, none⟩)] (.panicking (gave 148 e)) w fun en u' w' =>
      en = .returned (.tuple #[]) ∧ u' = .panicking [{ v := .iface 148 (.agg #[.int .i64 e]), recovered := true }] ∧ w'.cell? ⟨xb, 0, none⟩ = some (.int .i64 0) ∧ RdrAt 141 w' B S v { r with at' := from', err := e, spot := from' } ∧ Keep (Or2 (One xb) (One B)) w w' := by
  have lf := World.block_lt_of_cell? _ _ hf
  have lx := World.block_lt_of_cell? _ _ hx
  have lr := World.block_lt_of_cell? _ _ hr
  have lB := h.lt
  have kA : Keep No w (w.alloc (.cells #[.int .i64 e] 148)) := (Keep.refl No w).alloc _
  have hfA := (kA.cell lf (o := 0) (fun x => x)).trans hf
  have hxA := (kA.cell lx (o := 0) (fun x => x)).trans hx
  have hxzA := (kA.frozen lx (o := 0) (fun x => x)).trans hxz
  have hrA := (kA.cell lr (o := 0) (fun x => x)).trans hr
  have hA := h.agree kA
  have b1 := blk_cell hA.blk 1
  have b3 := blk_cell hA.blk 3
  have b4 := blk_cell hA.blk 4
  have z1 := blk_fro hA.blk 1
  have z3 := blk_fro hA.blk 3
  have z4 := blk_fro hA.blk 4
  simp only [List.getElem?_toArray, List.getElem?_cons_succ, List.getElem?_cons_zero] at b1 b3 b4
  have n1 : ¬ w.heap.size = xb := by have : xb < w.heap.size := lx; omega
  have n2 : ¬ w.heap.size = B := by omega
  have n3 : ¬ w.heap.size = fb := by have : fb < w.heap.size := lf; omega
  have HH := Lib.hid h
  have HA := Lib.hid hA
  have HK := Lib.hid kA
  have HR := Lib.hid (And.intro hS (And.intro h0 (And.intro h1000 hfl)))
  clear hS h0 h1000 hfl h hA kA hf hx hxz hr lf lx lr lB
  refine callsD_of_wpS Tryz.func99 rfl fun c₀ cs hu => ?_
  have hlit : (#[.pointer (some ⟨fb, 0, none⟩), .pointer (some ⟨xb, 0, none⟩), .pointer (some ⟨rb, 0, none⟩)] ++ Array.replicate (Tryz.f99.ntmps - (#[.pointer (some ⟨fb, 0, none⟩), .pointer (some ⟨xb, 0, none⟩), .pointer (some ⟨rb, 0, none⟩)] : Array Value).size) undef : Array Value) = #[.pointer (some ⟨fb, 0, none⟩), .pointer (some ⟨xb, 0, none⟩), .pointer (some ⟨rb, 0, none⟩), undef, undef, undef, undef, undef, undef, undef, undef, undef, undef, undef, undef, undef, undef, undef, undef, undef, undef, undef, undef, undef, undef, undef, undef, undef, undef, undef, undef, undef] := by kernel_rfl
  rw [hlit]
  clear hlit
  apply wpS_seq
  apply wpS_region
  simp [wpOpsS, go_sem, recoverD, hu, gave, Exit.thenS]
  apply wpS_seq
  apply wpS_region
  simp [wpOpsS, go_sem, Exit.thenS]
  refine wpS_cond (t := true) (by simp [Act.eval]) ?_
  simp only [if_true]
  refine wpS_of_wp ?_
  clear hu
  have hta := assert_gave
  go_wp2
  refine wp_region_can [0, 1, 2, 3, 4, 5, 6, 7, 8, 9, 10, 11, 12, 13, 14, 15, 16, 17] [8, 11, 14, 17] [(5, 8), (6, 8), (5, 11), (6, 11)] (by kernel_rfl) (by kernel_rfl) (by kernel_rfl) (by kernel_rfl) (by intro c a d v w h; cases d <;> exact h) ?_
  repeat (refine can_sil rfl rfl (fun K hK => ?_); go_simp; refine hK _ ?_; clear hK K)
  refine can_loud [5, 6] rfl rfl rfl (fun K hK => ?_)
  go_wp2_with fail
  refine Mid.normal (hK _ _ ?_ ?_)
  · simp only [List.forall_mem_cons]
    refine ⟨?_, ?_, stabs_nil⟩ <;> exact stab_of rfl (fun K hK => by go_simp; exact hK)
  clear hK K
  repeat (refine can_sil rfl rfl (fun K hK => ?_); go_simp; refine hK _ ?_; clear hK K)
  refine can_loud [5, 6] rfl rfl rfl (fun K hK => ?_)
  go_wp2_with fail
  refine Mid.normal (hK _ _ ?_ ?_)
  · simp only [List.forall_mem_cons]
    refine ⟨?_, ?_, stabs_nil⟩ <;> exact stab_of rfl (fun K hK => by go_simp; exact hK)
  clear hK K
  repeat (refine can_sil rfl rfl (fun K hK => ?_); go_simp; refine hK _ ?_; clear hK K)
  refine can_loud [] rfl rfl rfl (fun K hK => ?_)
  go_wp2_with fail
  refine Mid.normal (hK _ _ stabs_nil ?_)
  clear hK K
  repeat (refine can_sil rfl rfl (fun K hK => ?_); go_simp; refine hK _ ?_; clear hK K)
  refine can_loud [] rfl rfl rfl (fun K hK => ?_)
  go_wp2_with fail
  refine Mid.normal (hK _ _ stabs_nil ?_)
  clear hK K
  refine can_nil ?_
  refine ⟨rfl, _, rfl, _, by simp [results, Tryz.results99], rfl, rfl, ?_, ?_, ?_⟩
  · go_simp
  · obtain ⟨hS, h0, h1000, hfl⟩ := HR
    have hA : RdrAt 141 _ B S v r := HA
    have := (((hA.other (i := 0) h2 hS (.int .i64 0)).setAt from' _ rfl hfl).setErr e h0 h1000).setSpot from' _ rfl hfl
    exact this.drewN 1
  · have kA : Keep No w (w.alloc (.cells #[.int .i64 e] 148)) := HK
    exact (((((kA.mono (N := Or2 (One xb) (One B)) fun _ _ x => x.elim).setCell (p := ⟨xb, 0, none⟩) (fun _ => .inl rfl) _).setCell (p := ⟨B, 1, none⟩) (fun _ => .inr rfl) _).setCell (p := ⟨B, 3, none⟩) (fun _ => .inr rfl) _).setCell (p := ⟨B, 4, none⟩) (fun _ => .inr rfl) _).drew
set_option maxRecDepth 20000 in
set_option maxHeartbeats 2000000 in
theorem read_cnt (w : World) (B : Nat) (S : Nat → Prop) (v : Value) (r : Rs) (h : RdrAt 141 w B S v r) (he : r.err = 0) (K : Nat) (fi ca : Array Value) (o : (Value × Nat) ⊕ Int) (ho : OkO (fun x => ∃ n, x = .int .i64 n) r o) (hK : ∀ (args : Array Value) (w : World), (callFunc K args).run Tryz.prog w = .ok (.enter K args) w)
    (htake : ∀ w1, Keep No w w1 → Calls Tryz.prog K (fi ++ ca) w1 (Takes 141 148 w1 B (fun k => S k ∧ k < w.heap.size) v r o)) :
    Calls Tryz.prog 69 #[.pointer (some ⟨B, 0, none⟩), .func (.func K) fi ca] w (ReadTo 141 w B S v r (.int .i64 0) o) := by
  have hmf : ∀ (fn : Fn) (first cap : Array Value) (w : World), (Instr.makeFunc fn first cap).run Tryz.prog w = .ok (.func fn first cap) w := fun _ _ _ _ => rfl
  have lB := h.lt
  have hl := h.live
  have g2 := (((Keep.refl No w).alloc (.cells #[.pointer (some ⟨B, 0, none⟩)] 109)).alloc (.cells #[.int .i64 0] 3))
  have h2 := hl.agree g2
  have b1 := blk_cell h2.blk 1
  have b3 := blk_cell h2.blk 3
  simp only [List.getElem?_toArray, List.getElem?_cons_succ, List.getElem?_cons_zero] at b1 b3
  rw [he] at b3
  have HH := Lib.hid h
  have HT := Lib.hid htake
  have HO := Lib.hid ho
  have HE := Lib.hid he
  have HL := Lib.hid hl
  clear h ho he htake hl g2 h2
  go_enter_defers Tryz.func69, Tryz.ntmps69
  go_wp2_with fail
  refine (HT _ (((Keep.refl No w).alloc (.cells #[.pointer (some ⟨B, 0, none⟩)] 109)).alloc (.cells #[.int .i64 0] 3) |>.alloc (.cells #[.int .i64 r.at'] 3))).mono ?_
  rintro e w2 ⟨a, hr2, hk2, hres⟩
  have hn : ∀ i, ¬ One B (w.heap.size + i) := fun i hh => by have : w.heap.size + i = B := hh; omega
  have x0 := hk2.blk (blk_alloc (blk_alloc (blk_new w (.cells #[.pointer (some ⟨B, 0, none⟩)] 109)))) (hn 0)
  have x1 := hk2.blk (blk_alloc (blk_new (w.alloc (.cells #[.pointer (some ⟨B, 0, none⟩)] 109)) (.cells #[.int .i64 0] 3))) (by simpa using hn 1)
  have x2 := hk2.blk (blk_new ((w.alloc (.cells #[.pointer (some ⟨B, 0, none⟩)] 109)).alloc (.cells #[.int .i64 0] 3)) (.cells #[.int .i64 r.at'] 3)) (by simpa using hn 2)
  simp only [World.size_alloc] at x1 x2
  have K2 : Keep (One B) w w2 := (((((Keep.refl (One B) w).alloc _).alloc _).alloc _).trans hk2)
  cases o with
  | inl o =>
    obtain ⟨x, k⟩ := o
    obtain ⟨rfl, ha⟩ := hres
    have ha : a = r.at' + k := ha
    obtain ⟨hok, n, rfl⟩ : r.at' + k ≤ r.b.length ∧ ∃ n, x = .int .i64 n := HO
    have f1 : ¬ w.heap.size = B := by omega
    have f2 : ¬ w.heap.size + 1 = B := by omega
    have f3 : ¬ w.heap.size + 1 + 1 = B := by omega
    have f4 : ¬ w.heap.size + 1 + 1 = w.heap.size + 1 := by omega
    have f5 : ¬ w.heap.size = w.heap.size + 1 := by omega
    have HX := Lib.hid (show ¬ (S (w.heap.size + 1) ∧ w.heap.size + 1 < w.heap.size) from fun hh => by omega)
    have HW := Lib.hid (show w.heap.size ≤ w.heap.size + 1 from by omega)
    have c0 := blk_cell x0 0
    have c1 := blk_cell x1 0
    have c2 := blk_cell x2 0
    have z1 := blk_fro x1 0
    have c3 := blk_cell hr2.blk 2
    have z3 := blk_fro hr2.blk 2
    simp only [List.getElem?_toArray, List.getElem?_cons_succ, List.getElem?_cons_zero] at c0 c1 c2 c3
    have HR2 := Lib.hid hr2
    have HK2 := Lib.hid K2
    have HX1 := Lib.hid x1
    clear b1 b3 hmf hK hk2 hr2 hn x0 x1 x2 K2 HT lB
    generalize w.heap.size + 1 + 1 = fb at c2 f3 f4 ⊢
    generalize w.heap.size + 1 = xb at c1 z1 f2 f4 f5 HX HX1 HW ⊢
    generalize hrb : w.heap.size = rb at c0 f1 f5 ⊢
    go_wp2
    refine leaves_cons (f := 99) (args := #[.pointer (some ⟨fb, 0, none⟩), .pointer (some ⟨xb, 0, none⟩), .pointer (some ⟨rb, 0, none⟩)]) (by simp) (by simp [go_sem]) ?_
    refine (catch_idle_cnt _ _ _ _).mono ?_
    rintro e u' w'' ⟨rfl, rfl, rfl⟩
    refine ⟨.int .i64 n, by simp [results, Tryz.results69, go_sem, c1], ?_, rfl, ?_⟩
    · exact ((keep_own (Keep.setNew (p := ⟨xb, 0, none⟩) HK2 HW _) 2 _).setNew (p := ⟨xb, 0, none⟩) HW _)
    · subst ha
      have hh : RdrAt 141 w2 B (fun k => S k ∧ k < w.heap.size) v { r with at' := r.at' + k } := HR2
      have hB : ¬ S B := RdrAt.nB (show RdrAt 141 w B S v r from HH)
      exact (((hh.other (i := 0) f2 HX (.int .i64 n)).setLast r.at' _ rfl (by show r.at' ≤ r.b.length; omega)).other (i := 0) f2 HX (.int .i64 n)).mono (fun _ _ hs => hs.1) hB
  | inr x =>
    obtain rfl := hres
    obtain ⟨x0', x1'⟩ : 0 ≤ x ∧ x < 1000 := HO
    have f1 : ¬ w.heap.size = B := by omega
    have f2 : ¬ w.heap.size + 1 = B := by omega
    have f3 : ¬ w.heap.size + 1 + 1 = B := by omega
    have f4 : ¬ w.heap.size + 1 + 1 = w.heap.size + 1 := by omega
    have f5 : ¬ w.heap.size = w.heap.size + 1 := by omega
    have HX : ¬ (S (w.heap.size + 1) ∧ w.heap.size + 1 < w.heap.size) := fun hh => by omega
    have HW : w.heap.size ≤ w.heap.size + 1 := by omega
    have c0 := blk_cell x0 0
    have c1 := blk_cell x1 0
    have c2 := blk_cell x2 0
    have z1 := blk_fro x1 0
    simp only [List.getElem?_toArray, List.getElem?_cons_succ, List.getElem?_cons_zero] at c0 c1 c2
    clear b1 b3 hmf hK hk2 hn HT lB
    generalize w.heap.size + 1 + 1 = fb at c2 f3 f4 x2 ⊢
    generalize w.heap.size + 1 = xb at c1 z1 f2 f4 f5 HX x1 HW ⊢
    generalize hrb : w.heap.size = rb at c0 f1 f5 x0 ⊢
    refine leaves_cons (f := 99) (args := #[.pointer (some ⟨fb, 0, none⟩), .pointer (some ⟨xb, 0, none⟩), .pointer (some ⟨rb, 0, none⟩)]) (by simp) (by simp [go_sem]) ?_
    have hat : r.at' ≤ r.b.length := (show RdrAt 141 w B S v r from HH).ok.at_le
    have hB : ¬ S B := RdrAt.nB (show RdrAt 141 w B S v r from HH)
    refine (catch_gave_cnt w2 B fb xb rb _ v _ r.at' x _ hr2 c2 c1 z1 c0 f3 f2 f1 f4 f5 HX x0' x1' hat).mono ?_
    rintro e u' w'' ⟨rfl, rfl, g1, g2, g3⟩
    refine ⟨.int .i64 0, by simp [results, Tryz.results69, go_sem, g1], ?_, rfl, ?_⟩
    · exact K2.then g3 fun i hi hh => hh.elim (fun e => by have : i = xb := e; omega) (fun e => e)
    · exact RdrAt.mono g2 (fun _ _ hs => hs.1) hB
theorem catch_idle_i64 (p q s : Addr) (w : World) :
    CallsD Tryz.prog 151 #[.pointer (some p), .pointer (some q), .pointer (some s)] .returning w fun e u' w' => e = .returned (.tuple #[]) ∧ u' = .returning ∧ w' = w := by
  refine callsD_of_wpS Tryz.func151 rfl fun c₀ cs hu => ?_
  apply wpS_seq
  apply wpS_region
  simp [wpOpsS, go_sem, recoverD, hu, Tryz.ntmps151, Exit.thenS]
  apply wpS_seq
  apply wpS_region
  simp [wpOpsS, go_sem, Exit.thenS]
  refine wpS_cond (t := false) (by simp [Act.eval, Array.replicate]) ?_
  simp only [Bool.false_eq_true, if_false]
  refine wpS_of_wp (wp_skip ?_)
  cases c₀
  simp_all [bodyPostS, results, Tryz.results151]
set_option maxRecDepth 20000 in
theorem catch_gave_i64 (w : World) (B fb xb rb : Nat) (S : Nat → Prop) (v : Value) (r : Rs) (from' : Nat) (e : Int) (z0 : Value) (h : RdrAt 141 w B S v r)
    (hf : w.cell? ⟨fb, 0, none⟩ = some (.int .i64 from')) (hx : w.cell? ⟨xb, 0, none⟩ = some z0) (hxz : w.frozen? ⟨xb, 0, none⟩ = false) (hr : w.cell? ⟨rb, 0, none⟩ = some (.pointer (some ⟨B, 0, none⟩)))
    (h1 : ¬ fb = B) (h2 : ¬ xb = B) (h3 : ¬ rb = B) (h4 : ¬ fb = xb) (h5 : ¬ rb = xb) (hS : ¬ S xb) (h0 : 0 ≤ e) (h1000 : e < 1000) (hfl : from' ≤ r.b.length) :
    CallsD Tryz.prog 151 #[.pointer (some ⟨fb, 0, none⟩), .pointer (some ⟨xb, 0, none⟩), .pointer (some ⟨rb, 0, none⟩)] (.panicking (gave 148 e)) w fun en u' w' =>
      en = .returned (.tuple #[]) ∧ u' = .panicking [{ v := .iface 148 (.agg #[.int .i64 e]), recovered := true }] ∧ w'.cell? ⟨xb, 0, none⟩ = some (.int .i64 0) ∧ RdrAt 141 w' B S v { r with at' := from', err := e, spot := from' } ∧ Keep (Or2 (One xb) (One B)) w w' := by
  have lf := World.block_lt_of_cell? _ _ hf
  have lx := World.block_lt_of_cell? _ _ hx
  have lr := World.block_lt_of_cell? _ _ hr
  have lB := h.lt
  have kA : Keep No w (w.alloc (.cells #[.int .i64 e] 148)) := (Keep.refl No w).alloc _
  have hfA := (kA.cell lf (o := 0) (fun x => x)).trans hf
  have hxA := (kA.cell lx (o := 0) (fun x => x)).trans hx
  have hxzA := (kA.frozen lx (o := 0) (fun x => x)).trans hxz
  have hrA := (kA.cell lr (o := 0) (fun x => x)).trans hr
  have hA := h.agree kA
  have b1 := blk_cell hA.blk 1
  have b3 := blk_cell hA.blk 3
  have b4 := blk_cell hA.blk 4
  have z1 := blk_fro hA.blk 1
  have z3 := blk_fro hA.blk 3
  have z4 := blk_fro hA.blk 4
  simp only [List.getElem?_toArray, List.getElem?_cons_succ, List.getElem?_cons_zero] at b1 b3 b4
  have n1 : ¬ w.heap.size = xb := by have : xb < w.heap.size := lx; omega
  have n2 : ¬ w.heap.size = B := by omega
  have n3 : ¬ w.heap.size = fb := by have : fb < w.heap.size := lf; omega
  have HH := Lib.hid h
  have HA := Lib.hid hA
  have HK := Lib.hid kA
  have HR := Lib.hid (And.intro hS (And.intro h0 (And.intro h1000 hfl)))
  clear hS h0 h1000 hfl h hA kA hf hx hxz hr lf lx lr lB
  refine callsD_of_wpS Tryz.func151 rfl fun c₀ cs hu => ?_
  have hlit : (#[.pointer (some ⟨fb, 0, none⟩), .pointer (some ⟨xb, 0, none⟩), .pointer (some ⟨rb, 0, none⟩)] ++ Array.replicate (Tryz.f151.ntmps - (#[.pointer (some ⟨fb, 0, none⟩), .pointer (some ⟨xb, 0, none⟩), .pointer (some ⟨rb, 0, none⟩)] : Array Value).size) undef : Array Value) = #[.pointer (some ⟨fb, 0, none⟩), .pointer (some ⟨xb, 0, none⟩), .pointer (some ⟨rb, 0, none⟩), undef, undef, undef, undef, undef, undef, undef, undef, undef, undef, undef, undef, undef, undef, undef, undef, undef, undef, undef, undef, undef, undef, undef, undef, undef, undef, undef, undef, undef] := by kernel_rfl
  rw [hlit]
  clear hlit
  apply wpS_seq
  apply wpS_region
  simp [wpOpsS, go_sem, recoverD, hu, gave, Exit.thenS]
  apply wpS_seq
  apply wpS_region
  simp [wpOpsS, go_sem, Exit.thenS]
  refine wpS_cond (t := true) (by simp [Act.eval]) ?_
  simp only [if_true]
  refine wpS_of_wp ?_
  clear hu
  have hta := assert_gave
  go_wp2
  refine wp_region_can [0, 1, 2, 3, 4, 5, 6, 7, 8, 9, 10, 11, 12, 13, 14, 15, 16, 17] [8, 11, 14, 17] [(5, 8), (6, 8), (5, 11), (6, 11)] (by kernel_rfl) (by kernel_rfl) (by kernel_rfl) (by kernel_rfl) (by intro c a d v w h; cases d <;> exact h) ?_
  repeat (refine can_sil rfl rfl (fun K hK => ?_); go_simp; refine hK _ ?_; clear hK K)
  refine can_loud [5, 6] rfl rfl rfl (fun K hK => ?_)
  go_wp2_with fail
  refine Mid.normal (hK _ _ ?_ ?_)
  · simp only [List.forall_mem_cons]
    refine ⟨?_, ?_, stabs_nil⟩ <;> exact stab_of rfl (fun K hK => by go_simp; exact hK)
  clear hK K
  repeat (refine can_sil rfl rfl (fun K hK => ?_); go_simp; refine hK _ ?_; clear hK K)
  refine can_loud [5, 6] rfl rfl rfl (fun K hK => ?_)
  go_wp2_with fail
  refine Mid.normal (hK _ _ ?_ ?_)
  · simp only [List.forall_mem_cons]
    refine ⟨?_, ?_, stabs_nil⟩ <;> exact stab_of rfl (fun K hK => by go_simp; exact hK)
  clear hK K
  repeat (refine can_sil rfl rfl (fun K hK => ?_); go_simp; refine hK _ ?_; clear hK K)
  refine can_loud [] rfl rfl rfl (fun K hK => ?_)
  go_wp2_with fail
  refine Mid.normal (hK _ _ stabs_nil ?_)
  clear hK K
  repeat (refine can_sil rfl rfl (fun K hK => ?_); go_simp; refine hK _ ?_; clear hK K)
  refine can_loud [] rfl rfl rfl (fun K hK => ?_)
  go_wp2_with fail
  refine Mid.normal (hK _ _ stabs_nil ?_)
  clear hK K
  refine can_nil ?_
  refine ⟨rfl, _, rfl, _, by simp [results, Tryz.results151], rfl, rfl, ?_, ?_, ?_⟩
  · go_simp
  · obtain ⟨hS, h0, h1000, hfl⟩ := HR
    have hA : RdrAt 141 _ B S v r := HA
    have := (((hA.other (i := 0) h2 hS (.int .i64 0)).setAt from' _ rfl hfl).setErr e h0 h1000).setSpot from' _ rfl hfl
    exact this.drewN 1
  · have kA : Keep No w (w.alloc (.cells #[.int .i64 e] 148)) := HK
    exact (((((kA.mono (N := Or2 (One xb) (One B)) fun _ _ x => x.elim).setCell (p := ⟨xb, 0, none⟩) (fun _ => .inl rfl) _).setCell (p := ⟨B, 1, none⟩) (fun _ => .inr rfl) _).setCell (p := ⟨B, 3, none⟩) (fun _ => .inr rfl) _).setCell (p := ⟨B, 4, none⟩) (fun _ => .inr rfl) _).drew
set_option maxRecDepth 20000 in
set_option maxHeartbeats 2000000 in
theorem read_i64 (w : World) (B : Nat) (S : Nat → Prop) (v : Value) (r : Rs) (h : RdrAt 141 w B S v r) (he : r.err = 0) (K : Nat) (fi ca : Array Value) (o : (Value × Nat) ⊕ Int) (ho : OkO (fun x => ∃ n, x = .int .i64 n) r o) (hK : ∀ (args : Array Value) (w : World), (callFunc K args).run Tryz.prog w = .ok (.enter K args) w)
    (htake : ∀ w1, Keep No w w1 → Calls Tryz.prog K (fi ++ ca) w1 (Takes 141 148 w1 B (fun k => S k ∧ k < w.heap.size) v r o)) :
    Calls Tryz.prog 129 #[.pointer (some ⟨B, 0, none⟩), .func (.func K) fi ca] w (ReadTo 141 w B S v r (.int .i64 0) o) := by
  have hmf : ∀ (fn : Fn) (first cap : Array Value) (w : World), (Instr.makeFunc fn first cap).run Tryz.prog w = .ok (.func fn first cap) w := fun _ _ _ _ => rfl
  have lB := h.lt
  have hl := h.live
  have g2 := (((Keep.refl No w).alloc (.cells #[.pointer (some ⟨B, 0, none⟩)] 109)).alloc (.cells #[.int .i64 0] 2))
  have h2 := hl.agree g2
  have b1 := blk_cell h2.blk 1
  have b3 := blk_cell h2.blk 3
  simp only [List.getElem?_toArray, List.getElem?_cons_succ, List.getElem?_cons_zero] at b1 b3
  rw [he] at b3
  have HH := Lib.hid h
  have HT := Lib.hid htake
  have HO := Lib.hid ho
  have HE := Lib.hid he
  have HL := Lib.hid hl
  clear h ho he htake hl g2 h2
  go_enter_defers Tryz.func129, Tryz.ntmps129
  go_wp2_with fail
  refine (HT _ (((Keep.refl No w).alloc (.cells #[.pointer (some ⟨B, 0, none⟩)] 109)).alloc (.cells #[.int .i64 0] 2) |>.alloc (.cells #[.int .i64 r.at'] 3))).mono ?_
  rintro e w2 ⟨a, hr2, hk2, hres⟩
  have hn : ∀ i, ¬ One B (w.heap.size + i) := fun i hh => by have : w.heap.size + i = B := hh; omega
  have x0 := hk2.blk (blk_alloc (blk_alloc (blk_new w (.cells #[.pointer (some ⟨B, 0, none⟩)] 109)))) (hn 0)
  have x1 := hk2.blk (blk_alloc (blk_new (w.alloc (.cells #[.pointer (some ⟨B, 0, none⟩)] 109)) (.cells #[.int .i64 0] 2))) (by simpa using hn 1)
  have x2 := hk2.blk (blk_new ((w.alloc (.cells #[.pointer (some ⟨B, 0, none⟩)] 109)).alloc (.cells #[.int .i64 0] 2)) (.cells #[.int .i64 r.at'] 3)) (by simpa using hn 2)
  simp only [World.size_alloc] at x1 x2
  have K2 : Keep (One B) w w2 := (((((Keep.refl (One B) w).alloc _).alloc _).alloc _).trans hk2)
  cases o with
  | inl o =>
    obtain ⟨x, k⟩ := o
    obtain ⟨rfl, ha⟩ := hres
    have ha : a = r.at' + k := ha
    obtain ⟨hok, n, rfl⟩ : r.at' + k ≤ r.b.length ∧ ∃ n, x = .int .i64 n := HO
    have f1 : ¬ w.heap.size = B := by omega
    have f2 : ¬ w.heap.size + 1 = B := by omega
    have f3 : ¬ w.heap.size + 1 + 1 = B := by omega
    have f4 : ¬ w.heap.size + 1 + 1 = w.heap.size + 1 := by omega
    have f5 : ¬ w.heap.size = w.heap.size + 1 := by omega
    have HX := Lib.hid (show ¬ (S (w.heap.size + 1) ∧ w.heap.size + 1 < w.heap.size) from fun hh => by omega)
    have HW := Lib.hid (show w.heap.size ≤ w.heap.size + 1 from by omega)
    have c0 := blk_cell x0 0
    have c1 := blk_cell x1 0
    have c2 := blk_cell x2 0
    have z1 := blk_fro x1 0
    have c3 := blk_cell hr2.blk 2
    have z3 := blk_fro hr2.blk 2
    simp only [List.getElem?_toArray, List.getElem?_cons_succ, List.getElem?_cons_zero] at c0 c1 c2 c3
    have HR2 := Lib.hid hr2
    have HK2 := Lib.hid K2
    have HX1 := Lib.hid x1
    clear b1 b3 hmf hK hk2 hr2 hn x0 x1 x2 K2 HT lB
    generalize w.heap.size + 1 + 1 = fb at c2 f3 f4 ⊢
    generalize w.heap.size + 1 = xb at c1 z1 f2 f4 f5 HX HX1 HW ⊢
    generalize hrb : w.heap.size = rb at c0 f1 f5 ⊢
    go_wp2
    refine leaves_cons (f := 151) (args := #[.pointer (some ⟨fb, 0, none⟩), .pointer (some ⟨xb, 0, none⟩), .pointer (some ⟨rb, 0, none⟩)]) (by simp) (by simp [go_sem]) ?_
    refine (catch_idle_i64 _ _ _ _).mono ?_
    rintro e u' w'' ⟨rfl, rfl, rfl⟩
    refine ⟨.int .i64 n, by simp [results, Tryz.results129, go_sem, c1], ?_, rfl, ?_⟩
    · exact ((keep_own (Keep.setNew (p := ⟨xb, 0, none⟩) HK2 HW _) 2 _).setNew (p := ⟨xb, 0, none⟩) HW _)
    · subst ha
      have hh : RdrAt 141 w2 B (fun k => S k ∧ k < w.heap.size) v { r with at' := r.at' + k } := HR2
      have hB : ¬ S B := RdrAt.nB (show RdrAt 141 w B S v r from HH)
      exact (((hh.other (i := 0) f2 HX (.int .i64 n)).setLast r.at' _ rfl (by show r.at' ≤ r.b.length; omega)).other (i := 0) f2 HX (.int .i64 n)).mono (fun _ _ hs => hs.1) hB
  | inr x =>
    obtain rfl := hres
    obtain ⟨x0', x1'⟩ : 0 ≤ x ∧ x < 1000 := HO
    have f1 : ¬ w.heap.size = B := by omega
    have f2 : ¬ w.heap.size + 1 = B := by omega
    have f3 : ¬ w.heap.size + 1 + 1 = B := by omega
    have f4 : ¬ w.heap.size + 1 + 1 = w.heap.size + 1 := by omega
    have f5 : ¬ w.heap.size = w.heap.size + 1 := by omega
    have HX : ¬ (S (w.heap.size + 1) ∧ w.heap.size + 1 < w.heap.size) := fun hh => by omega
    have HW : w.heap.size ≤ w.heap.size + 1 := by omega
    have c0 := blk_cell x0 0
    have c1 := blk_cell x1 0
    have c2 := blk_cell x2 0
    have z1 := blk_fro x1 0
    simp only [List.getElem?_toArray, List.getElem?_cons_succ, List.getElem?_cons_zero] at c0 c1 c2
    clear b1 b3 hmf hK hk2 hn HT lB
    generalize w.heap.size + 1 + 1 = fb at c2 f3 f4 x2 ⊢
    generalize w.heap.size + 1 = xb at c1 z1 f2 f4 f5 HX x1 HW ⊢
    generalize hrb : w.heap.size = rb at c0 f1 f5 x0 ⊢
    refine leaves_cons (f := 151) (args := #[.pointer (some ⟨fb, 0, none⟩), .pointer (some ⟨xb, 0, none⟩), .pointer (some ⟨rb, 0, none⟩)]) (by simp) (by simp [go_sem]) ?_
    have hat : r.at' ≤ r.b.length := (show RdrAt 141 w B S v r from HH).ok.at_le
    have hB : ¬ S B := RdrAt.nB (show RdrAt 141 w B S v r from HH)
    refine (catch_gave_i64 w2 B fb xb rb _ v _ r.at' x _ hr2 c2 c1 z1 c0 f3 f2 f1 f4 f5 HX x0' x1' hat).mono ?_
    rintro e u' w'' ⟨rfl, rfl, g1, g2, g3⟩
    refine ⟨.int .i64 0, by simp [results, Tryz.results129, go_sem, g1], ?_, rfl, ?_⟩
    · exact K2.then g3 fun i hi hh => hh.elim (fun e => by have : i = xb := e; omega) (fun e => e)
    · exact RdrAt.mono g2 (fun _ _ hs => hs.1) hB
end Go.Proofs.YtcallmnhaikfpaaGreatDoor
