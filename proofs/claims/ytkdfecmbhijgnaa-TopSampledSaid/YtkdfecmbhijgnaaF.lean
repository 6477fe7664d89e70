/-
  The given example of the lot's chance answers true; no condition.
-/
import Derived.Test.YtkdfecmbhijgnaaE
namespace Go.Proofs.Ytkdfecmbhijgnaa
open Go.RowKit

set_option maxHeartbeats 400000 in
theorem pubLot_any (w : World) : Calls Try.prog 6 #[] w fun e w' => e = .returned (.bool true) ∧ Below w.heap.size w w' := by
  have hc := fun W => Chance_any 10 3 2 0 (by omega) (by omega) (by omega) (by omega) (by omega) W
  have k1 : psum 3 (10 - 3) 2 (0 + 1) = 21 := by decide
  have k2 : ch 10 2 = 45 := by decide
  rw [k1, k2, show Nat.gcd 21 45 = 3 by decide] at hc
  simp only [Nat.reduceDiv] at hc
  clear k1 k2
  go_enter Try.func6, Try.ntmps6
  go_wp2_with (go_at_call 5; refine (hc _).mono ?_; rintro e w1 ⟨rfl, hb⟩)
  go_ret
  exact ⟨rfl, hb.alloc hb.size _⟩

end Go.Proofs.Ytkdfecmbhijgnaa
