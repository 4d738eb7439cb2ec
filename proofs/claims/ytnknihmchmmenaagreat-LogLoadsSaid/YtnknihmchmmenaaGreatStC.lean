/-
  The law's spoil at a list of one plan, made on the spot.
-/
import Derived.Test.YtnknihmchmmenaaGreatStA
namespace Go.Proofs.YtnknihmchmmenaaGreat
open Go Go.RowKit Go.Deep
set_option linter.unusedVariables false
set_option linter.unusedSimpArgs false

theorem Kin.alloc {S : Nat → Prop} (w : World) (o : Obj) : Kin S w (w.alloc o) := Kin.ofKeep ((Keep.refl No w).alloc o)
/-- what was new may turn without a word -/
theorem Kin.back {m : Nat} {a b c : World} (h : Kin (Up m) a b) {S : Nat → Prop} (k : Kin S b c) (hS : ∀ i, S i → m ≤ i) : Kin (Up m) a c := h.trans (k.mono hS)
theorem rd_one {w : World} {m : Nat} {cs : List Value} {p : Plan} (h : Rd planSh w (Up m) cs p) (hm : m ≤ w.heap.size) :
    Rd (.slice planSh) (w.alloc (.cells cs.toArray 38)) (Fr m (w.heap.size + 1)) [.slice (some ⟨w.heap.size, 0, none⟩) 1 1] [p] := by
  refine ⟨some ⟨w.heap.size, 0, none⟩, 1, rfl, Nat.le_refl _, by rw [maxLen_is]; omega, fun h => (by cases h), fun i hi => ?_⟩
  have hi0 : i = 0 := by simp at hi; omega
  subst hi0
  have ka := (Keep.refl No w).alloc (.cells cs.toArray 38)
  refine ⟨w.heap.size, 0, cs, rfl, by simp, ⟨hm, by omega⟩, h.length, ?_, ?_⟩
  · have := RowAt.ofBlock (blk_new w (.cells cs.toArray 38)) 0 cs.length
    simpa using this
  · exact (h.agree _ ka.agreeNo).mono _ (T := Fr m (w.heap.size + 1)) fun i hi hu => ⟨hu, by simpa using hi⟩
theorem spoil_one {w : World} {m : Nat} {cs : List Value} {p : Plan} (h : Rd planSh w (Up m) cs p) (hm : m ≤ w.heap.size) :
    Calls Tryz.prog 34 #[.slice (some ⟨w.heap.size, 0, none⟩) 1 1] (w.alloc (.cells cs.toArray 38)) fun e w' => e = .returned (.tuple #[]) ∧ RowKit.Hid (Kin (Up m) w w') := by
  refine (lspoil_any _ (Fr m (w.heap.size + 1)) _ 1 1 [p] (rd_one h hm) fun k hk => by have := hk.2; simp; omega).mono ?_
  rintro e w' ⟨rfl, hk⟩
  exact ⟨rfl, (Kin.alloc w _).trans (hk.mono fun i hi => hi.1)⟩
/-- an entry's plan, out of a list that may have been spoilt -/
theorem kin_ents {U S : Nat → Prop} {w w' : World} (h : Kin U w w') {a : Option Addr} {n c : Nat} {l : List Ent} (hr : Rd (.slice entrySh) w S [.slice a n c] l) (i : Nat) (hi : i < n) :
    ∃ (b off : Nat) (e : Ent) (a1 : Option Addr) (c1 : Nat) (a2 : Option Addr) (c2 : Nat) (a3 : Option Addr) (c3 : Nat), a = some ⟨b, off, none⟩ ∧
      RowAt w' b (off + i * 9) [.int .i64 e.seq, .int .i64 e.epoch, .int .i64 e.plan.client, .int .u64 e.plan.token, .string e.plan.name, .slice a1 e.plan.args.length c1, .int .i64 e.plan.how, .slice a2 e.plan.reads.length c2, .slice a3 e.plan.writes.length c3] ∧
      Rd planSh w' S [.int .i64 e.plan.client, .int .u64 e.plan.token, .string e.plan.name, .slice a1 e.plan.args.length c1, .int .i64 e.plan.how, .slice a2 e.plan.reads.length c2, .slice a3 e.plan.writes.length c3] e.plan := by
  obtain ⟨l', hl, hr'⟩ : ∃ l' : List Ent, l'.length = n ∧ Rd (.slice entrySh) w' S [.slice a n c] l' := Kin.slice h hr
  obtain ⟨b, off, a1, c1, a2, c2, a3, c3, ha, -, -, hrow, hx⟩ := ents_get hr' i (by omega)
  obtain ⟨ps, e1, h3, -⟩ := ent_cells hx
  simp only [List.cons.injEq, true_and] at e1
  subst e1
  exact ⟨b, off, l'[i], a1, c1, a2, c2, a3, c3, ha, hrow, h3⟩
end Go.Proofs.YtnknihmchmmenaaGreat
