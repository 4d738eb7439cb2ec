/-
  LogEntries, whatever the input.
-/
import Derived.Test.YtnknihmchmmenaaGreatLeA
namespace Go.Proofs.YtnknihmchmmenaaGreat
open Go Go.RowKit Go.Deep
set_option linter.unusedVariables false
set_option linter.unusedSimpArgs false

theorem ent_vars {w : World} {S : Nat → Prop} {cs : List Value} {x : Ent} (h : Rd entrySh w S cs x) : ∃ (v0 v1 v2 v3 v6 : Int) (v4 : ByteArray) (v5 v7 v8 : Option Addr) (m5 k5 m7 k7 m8 k8 : Nat),
    cs = [.int .i64 v0, .int .i64 v1, .int .i64 v2, .int .u64 v3, .string v4, .slice v5 m5 k5, .int .i64 v6, .slice v7 m7 k7, .slice v8 m8 k8] := by
  obtain ⟨ps, e1, h3, -⟩ := ent_cells h
  obtain ⟨a1, c1, a2, c2, a3, c3, e2, -⟩ := plan_form h3
  subst e2
  exact ⟨_, _, _, _, _, _, _, _, _, _, _, _, _, _, _, e1⟩
theorem ent_bulk (x : Ent) : planSh.bulk x.plan ≤ entrySh.bulk x := by
  have e : entrySh.bulk x = (1 + (1 + (planSh.bulk x.plan + 0))) + 1 := rfl
  rw [e]; omega
theorem two_bulk (x : twoSh.T) : twoSh.bulk x = (entrySh.bulk x.1 + (entrySh.bulk x.2.1 + (bytesSh.bulk x.2.2.1 + (bytesSh.bulk x.2.2.2.1 + 0)))) + 1 := rfl
theorem plan_fit_of {p : Plan} (h : planSh.bulk p ≤ 1048576) : p.Fit ∧ partsN p ≤ 1048576 := by
  have h2 := plan_bulk p
  have h3 : partsN p = 1 + p.args.length + p.reads.length + p.writes.length := rfl
  exact ⟨⟨by omega, by omega⟩, by omega⟩

theorem LogEntries_calls (w : World) (cs : List Value) (t : twoSh.T) (h : Rd twoSh w (Lt w.heap.size) cs t) (hb : twoSh.bulk t ≤ 1048576) :
    Calls Tryz.prog 4 #[.agg cs.toArray] w fun e w' => e = .returned (.bool true) ∧ Keep No w w' := by
  rw [two_bulk] at hb
  have b1 := ent_bulk t.1
  have b2 := ent_bulk t.2.1
  have b3 := len_bulk (.int .u8) t.2.2.1 (fun y => by simp [Sh.bulk])
  have b4 := len_bulk (.int .u8) t.2.2.2.1 (fun y => by simp [Sh.bulk])
  have b5 : bytesSh.bulk t.2.2.1 = (t.2.2.1.map (Sh.int .u8).bulk).sum + 1 := rfl
  have b6 : bytesSh.bulk t.2.2.2.1 = (t.2.2.2.1.map (Sh.int .u8).bulk).sum + 1 := rfl
  obtain ⟨fx, px⟩ := plan_fit_of (p := (Ent.plan t.1)) (by omega)
  obtain ⟨-, py⟩ := plan_fit_of (p := (Ent.plan t.2.1)) (by omega)
  have b7 : planSh.bulk (Ent.plan t.1) = planSh.bulk (Ent.plan t.1) := rfl
  have b8 := plan_bulk (Ent.plan t.1)
  have b9 := plan_bulk (Ent.plan t.2.1)
  obtain ⟨es, fs, a, c, a', c', rfl, h1, h2, h3, h4⟩ := two_cells h
  obtain ⟨p0, p1, p2, p3, p6, p4, p5, p7, p8, pm5, pk5, pm7, pk7, pm8, pk8, rfl⟩ := ent_vars h1
  obtain ⟨q0, q1, q2, q3, q6, q4, q5, q7, q8, qm5, qk5, qm7, qk7, qm8, qk8, rfl⟩ := ent_vars h2
  exact LogEntries_main w p0 p1 p2 p3 p6 p4 p5 p7 p8 pm5 pk5 pm7 pk7 pm8 pk8 q0 q1 q2 q3 q6 q4 q5 q7 q8 qm5 qk5 qm7 qk7 qm8 qk8 a a' _ c _ c' t.1 t.2.1 h1 h2 (by omega) (by omega) t.2.2.1 t.2.2.2.1 rfl rfl h3 h4 (by omega) (by omega) fx
end Go.Proofs.YtnknihmchmmenaaGreat
