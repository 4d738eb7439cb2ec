/-
  Parts of what is proved for this claim; each declaration is one of the seat's texts.
-/
import Derived.Test.YtfgdnakfikpmpaaGreatDoorFGA
set_option linter.unusedVariables false
set_option linter.unusedSimpArgs false
namespace Go.Proofs.YtfgdnakfikpmpaaGreatDoor
open Go Go.RowKit Go.Deep
@[reducible] def valueSh : Sh := .struct (.cons (.int .i64) (.cons (.int .i64) (.cons .str .nil)))
@[reducible] def footSh : Sh := .struct (.cons (.slice .str) (.cons (.slice .str) .nil))
def Sh.flat : Sh → Bool
  | .int _ | .bool | .str | .nil => true
  | .slice _ => false
  | .cons a b => a.flat && b.flat
  | .struct b => b.flat
theorem Rd.ofFlat : ∀ (s : Sh), s.flat = true → ∀ {w w' : World} {S T : Nat → Prop} {cs : List Value} {x : s.T}, Rd s w S cs x → Rd s w' T cs x
  | .int _, _, _, _, _, _, _, _, h => h
  | .bool, _, _, _, _, _, _, _, h => h
  | .str, _, _, _, _, _, _, _, h => h
  | .slice _, hf, _, _, _, _, _, _, _ => by cases hf
  | .nil, _, _, _, _, _, _, _, h => h
  | .cons a b, hf, _, _, _, _, _, _, h => by
    simp only [Sh.flat, Bool.and_eq_true] at hf
    obtain ⟨c1, c2, rfl, h1, h2⟩ := h
    exact ⟨c1, c2, rfl, Rd.ofFlat a hf.1 h1, Rd.ofFlat b hf.2 h2⟩
  | .struct b, hf, _, _, _, _, _, x, h => Rd.ofFlat b hf (x := x) h
theorem Rd.sliceForm {s : Sh} {w : World} {S : Nat → Prop} {cs : List Value} {l : List s.T} (h : Rd (.slice s) w S cs l) : ∃ a c, cs = [.slice a l.length c] ∧ l.length ≤ c ∧ (a = none → l = [] ∧ c = 0) := by
  obtain ⟨a, c, rfl, h1, _, h2, _⟩ := h
  exact ⟨a, c, rfl, h1, h2⟩
def Cloned (s : Sh) (e : TypeId) (w : World) (l : List s.T) (en : Ending) (w' : World) : Prop :=
  ∃ a c, en = .returned (.slice a l.length c) ∧ Own s e w' (Fr w.heap.size w'.heap.size) (.slice a l.length c) l ∧ Keep No w w'
theorem clone_app {P : Program} {w : World} {S : Nat → Prop} {v : Value} {s : Sh} {l : List s.T} (h : Rd (.slice s) w S [v] l) (hf : s.flat = true) (t e ty : TypeId) (i : TypeInfo) (z : Value) (bytes : Nat)
    (ht : P.underlying t = some (.slice e)) (hi : P.info? e = some i) (hz : i.zero = some z) (hsz : i.size = s.size) (hby : i.bytes = bytes) (hzs : z.cells.size = s.size) (hl : l.length ≤ 1048576) (hb : bytes ≤ 4096) :
    ∃ a c w', (Builtin.append_ #[t, t] ty #[.slice (some ⟨w.heap.size, 0, none⟩) 0 0, v]).run P (w.alloc (.cells #[] e)) = .ok (.slice a l.length c) w' ∧ Own s e w' (Fr w.heap.size w'.heap.size) (.slice a l.length c) l ∧ Keep No w w' := by
  obtain ⟨rows, hrl, hr, hsrc⟩ := Rd.rows h
  have h0 : OwnRows (w.alloc (.cells #[] e)) e s.size (.slice (some ⟨w.heap.size, 0, none⟩) 0 0) (some w.heap.size) [] :=
    ⟨fun _ h => (by cases h), .inr ⟨w.heap.size, 0, 0, #[], rfl, rfl, heap_alloc_new w _, Nat.le_refl _, Nat.zero_le _, by simp, by simp⟩⟩
  have hag : Agree S w (w.alloc (.cells #[] e)) := ((Keep.refl No w).alloc _).agreeNo
  obtain ⟨a, c, w', g', hrun, ho, hg', hk, hs⟩ := own_append h0 t t ty i z bytes ht hi hz hsz hby hzs (hsrc P t e ht _ hag) (fun r hr' => by
    obtain ⟨j, hj, rfl⟩ := List.getElem_of_mem hr'
    exact (hr j hj (by omega)).length s) (by simp; omega) (by
      simp only [List.length_nil, Nat.zero_add, hrl]
      exact Nat.le_trans (Nat.mul_le_mul hl hb) (by decide))
  simp only [List.length_nil, Nat.zero_add, hrl, List.nil_append] at hrun ho
  refine ⟨a, c, w', hrun, ?_, ((Keep.refl No w).alloc _).then hk fun k hk hg => ?_⟩
  · refine ⟨g', rows, No, ho, hrl, fun i hi hi' => Rd.ofFlat s hf (hr i hi hi'), fun b hb => ⟨?_, fun x => x⟩, fun _ x => x.elim⟩
    have := ho.lt hb
    rcases hg' with rfl | rfl
    · cases hb; exact ⟨Nat.le_refl _, this⟩
    · cases hb; exact ⟨by simp, this⟩
  · simp only [Option.some.injEq] at hg; omega
end Go.Proofs.YtfgdnakfikpmpaaGreatDoor
namespace Go.Proofs.YtfgdnakfikpmpaaGreatDoor
open Go Go.RowKit Go.Deep
abbrev Bytes := List Int
@[reducible] def bytesSh : Sh := .slice (.int .u8)
def AllB (l : Bytes) : Prop := ∀ x ∈ l, 0 ≤ x ∧ x < 256
theorem AllB.nil : AllB [] := fun _ h => by cases h
theorem AllB.cons {x : Int} {b : Bytes} (h0 : 0 ≤ x) (h1 : x < 256) (k : AllB b) : AllB (x :: b) := fun y hy => by
  rcases List.mem_cons.1 hy with rfl | hy
  · exact ⟨h0, h1⟩
  · exact k y hy
def bytesOf (s : ByteArray) : Bytes := s.data.toList.map fun c => (c.toNat : Int)
def textOf (l : Bytes) : ByteArray := ⟨(l.map fun x => UInt8.ofNat x.toNat).toArray⟩
theorem bytesOf_length (s : ByteArray) : (bytesOf s).length = s.size := by
  show (s.data.toList.map _).length = s.data.size
  rw [List.length_map, Array.length_toList]
theorem bytesOf_allB (s : ByteArray) : AllB (bytesOf s) := fun x hx => by
  obtain ⟨c, -, rfl⟩ := List.mem_map.1 hx
  have := c.toNat_lt
  omega
end Go.Proofs.YtfgdnakfikpmpaaGreatDoor
namespace Go.Proofs.YtfgdnakfikpmpaaGreatDoor
open Go Go.RowKit Go.Deep
abbrev Val := valueSh.T
abbrev Val.kind (v : Val) : Int := v.1
abbrev Val.num (v : Val) : Int := v.2.1
abbrev Val.text (v : Val) : ByteArray := v.2.2.1
def mkVal (k n : Int) (t : ByteArray) : Val := (k, n, t, ())
def noText : ByteArray := ⟨#[]⟩
def val0 : Val := mkVal 0 0 noText
def plainC (c : Int) : Bool := decide (32 ≤ c) && decide (c ≤ 126)
def plainB (s : ByteArray) : Bool := (bytesOf s).all plainC
def Val.ok (v : Val) : Bool :=
  if v.kind = 0 then decide (v.num = 0) && decide (v.text.size = 0)
  else if v.kind = 1 then decide (v.text.size = 0)
  else if v.kind = 2 then decide (v.num = 0) && decide (v.text.size ≤ 64) && plainB v.text
  else false
def keyC (c : Int) : Bool := (decide (97 ≤ c) && decide (c ≤ 122)) || (decide (48 ≤ c) && decide (c ≤ 57)) || decide (c = 47) || decide (c = 58) || decide (c = 46) || decide (c = 95) || decide (c = 45)
def keyOk (s : ByteArray) : Bool := (bytesOf s).all keyC && decide (1 ≤ s.size) && decide (s.size ≤ 32)
def ltT (a b : ByteArray) : Bool := Op.bytesLess a.toList b.toList
def insT (x : ByteArray) : List ByteArray → List ByteArray
  | [] => [x]
  | y :: l => if ltT y x then y :: insT x l else if y = x then y :: l else x :: y :: l
def setT (l : List ByteArray) : List ByteArray := l.foldl (fun s x => insT x s) []
abbrev Fp := footSh.T
abbrev Fp.rs (f : Fp) : List ByteArray := f.1
abbrev Fp.ws (f : Fp) : List ByteArray := f.2.1
def mkFp (r w : List ByteArray) : Fp := (r, w, ())
def Fp.norm (f : Fp) : Fp × Int :=
  if (f.rs ++ f.ws).all keyOk = false then (mkFp [] [], 30)
  else if 64 < (setT (f.rs ++ f.ws)).length then (mkFp [] [], 6)
  else (mkFp (setT f.rs) (setT f.ws), 0)
def hasT (l : List ByteArray) (k : ByteArray) : Bool := l.any fun x => decide (x = k)
theorem hasT_iff (l : List ByteArray) (k : ByteArray) : hasT l k = true ↔ k ∈ l := by simp [hasT]
def Fp.use (f : Fp) (k : ByteArray) : Int := (if hasT f.rs k then 1 else 0) + (if hasT f.ws k then 2 else 0)
def nameOk (s : ByteArray) : Bool :=
  (match bytesOf s with
   | [] => false
   | c :: l => decide (97 ≤ c) && decide (c ≤ 122) && l.all fun c => (decide (97 ≤ c) && decide (c ≤ 122)) || decide (c = 95) || (decide (48 ≤ c) && decide (c ≤ 57))) && decide (s.size ≤ 16)
def givenV (v : Val) : Bool := v.ok && decide (v.kind ≠ 0)
end Go.Proofs.YtfgdnakfikpmpaaGreatDoor
