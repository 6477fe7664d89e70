/-
  The map of causes: its keys as letters of the map's law.
-/
import Derived.Test.YtkdfecmbhijgnaaN
import Derived.Test.YtkdfecmbhijgnaaG
import Derived.Maps.Own
import Derived.Maps.OwnSet
import Derived.DeepKeys4
namespace Go.Proofs.Ytkdfecmbhijgnaa
open Go.RowKit Go.Maps

theorem Try.laidOut : laidOutB Try.prog = true := by kernel_rfl

theorem mlaw : Keyed Try.prog 35 := Keyed.of_law (deep_law_laid Try.laidOut (m := 117) (by decide) (of_decide_eq_true (by kernel_rfl)) (by kernel_rfl) (by kernel_rfl))

def kl (x : Key) : Lit := .string (keyBytes [.int .i64 x.k, .int .i64 x.m, .int .i64 x.n])
/-- its numbers are ints -/
def Key.wf (x : Key) : Prop := (Lit.int .i64 x.k).wf = true ∧ (Lit.int .i64 x.m).wf = true ∧ (Lit.int .i64 x.n).wf = true

theorem cells35 : Try.prog.cellsOf 35 = 3 := by kernel_rfl
theorem cells33 : Try.prog.cellsOf 33 = 1 := by kernel_rfl
theorem cells3 : Try.prog.cellsOf 3 = 1 := by kernel_rfl
theorem isKey35 : Try.prog.keyType 35 = true := by kernel_rfl

theorem key_lits (d : Nat) (x : Key) (h : x.wf) : Try.prog.keyLits (d + 2) 35 [.int .i64 x.k, .int .i64 x.m, .int .i64 x.n] = some [.int .i64 x.k, .int .i64 x.m, .int .i64 x.n] := by
  obtain ⟨h1, h2, h3⟩ := h
  simp [Program.keyLits, Try.underlying35, Try.underlying33, Try.underlying3, cells35, cells33, cells3, h1, h2, h3]

theorem keyOf_key (x : Key) (h : x.wf) : keyOf Try.prog 35 (.agg #[.int .i64 x.k, .int .i64 x.m, .int .i64 x.n]) = some (kl x) := by
  have h1 : 1 ≤ Try.prog.types.size := of_decide_eq_true (by kernel_rfl)
  obtain ⟨d, hs⟩ : ∃ d, Try.prog.types.size + 1 = d + 2 := ⟨Try.prog.types.size - 1, by omega⟩
  unfold keyOf
  rw [Try.underlying35]
  simp only [isKey35, Value.formed, Try.underlying35, cells35, Value.cells, hs]
  simp [key_lits d x h, kl]

end Go.Proofs.Ytkdfecmbhijgnaa
