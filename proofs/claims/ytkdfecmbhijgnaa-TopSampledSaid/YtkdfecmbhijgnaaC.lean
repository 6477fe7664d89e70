/-
  The size and the plan of a lot are accepted where they lie in their bounds; what a box holds stays as it was below the call.
-/
import Derived.Test.YtkdfecmbhijgnaaB
import Derived.Deep.RegionHeld3
import Derived.RegionTactic
import Derived.Deep.RegionWith
import Derived.Deep.QuietTactic
import Derived.BigQuiet
namespace Go.Proofs.Ytkdfecmbhijgnaa
open Go.RowKit

theorem in_one (l m n : Int) : allIn l m [n] = decide (l ≤ n ∧ n ≤ m) := by
  unfold allIn out
  by_cases h1 : n < l <;> by_cases h2 : n > m <;> simp [h1, h2] <;> omega

theorem laid_below {w w' : World} {o : Obj} (h : Below (w.alloc o).heap.size (w.alloc o) w') : Below w.heap.size w w' :=
  ((Below.refl _ _).alloc (Nat.le_refl _) _).trans (h.mono (by simp))

theorem boxed2 {w w1 : World} {x y : Value} {T : TypeId} {o : Obj} (h : Below ((w.alloc (.cells #[x, y] T)).alloc o).heap.size ((w.alloc (.cells #[x, y] T)).alloc o) w1) :
    w1.cell? ⟨w.heap.size, 0, none⟩ = some x ∧ w1.cell? ⟨w.heap.size, 1, none⟩ = some y ∧ Below w.heap.size w w1 :=
  ⟨(h.cell (p := ⟨w.heap.size, 0, none⟩) (by simp; omega)).trans (by simp),
   (h.cell (p := ⟨w.heap.size, 1, none⟩) (by simp; omega)).trans (by simp),
   ((Below.refl _ _).alloc (Nat.le_refl _) _).trans ((laid_below h).mono (by simp))⟩

theorem within1 (x l m : Int) (b : Nat) (w : World) (hb : b < w.heap.size) (hx : w.cell? ⟨b, 0, none⟩ = some (.int .i64 x)) :
    Calls Try.prog 12 #[.int .i64 l, .int .i64 m, .slice (some ⟨b, 0, none⟩) 1 1] w fun e w' => e = .returned (.bool (allIn l m [x])) ∧ Below w.heap.size w w' :=
  within_lot [x] b l m w (by simp) hb (fun i hi => by obtain rfl : i = 0 := by simpa using hi
                                                      exact hx)

theorem within1_yes (x l m : Int) (b : Nat) (w : World) (h : l ≤ x ∧ x ≤ m) (hb : b < w.heap.size) (hx : w.cell? ⟨b, 0, none⟩ = some (.int .i64 x)) :
    Calls Try.prog 12 #[.int .i64 l, .int .i64 m, .slice (some ⟨b, 0, none⟩) 1 1] w fun e w' => e = .returned (.bool true) ∧ Below w.heap.size w w' :=
  (within1 x l m b w hb hx).mono fun e w' ⟨h1, h2⟩ => ⟨by rw [h1, in_one, decide_eq_true h], h2⟩

theorem within1_no (x l m : Int) (b : Nat) (w : World) (h : ¬ (l ≤ x ∧ x ≤ m)) (hb : b < w.heap.size) (hx : w.cell? ⟨b, 0, none⟩ = some (.int .i64 x)) :
    Calls Try.prog 12 #[.int .i64 l, .int .i64 m, .slice (some ⟨b, 0, none⟩) 1 1] w fun e w' => e = .returned (.bool false) ∧ Below w.heap.size w w' :=
  (within1 x l m b w hb hx).mono fun e w' ⟨h1, h2⟩ => ⟨by rw [h1, in_one, decide_eq_false h], h2⟩

set_option maxHeartbeats 400000 in
theorem isSize_any (n : Int) (h : 1 ≤ n ∧ n ≤ 50) (w : World) :
    Calls Try.prog 11 #[.int .i64 n] w fun e w' => e = .returned (.bool true) ∧ Below w.heap.size w w' := by
  have ho : allIn 1 50 [n] = true := by rw [in_one]; simpa using h
  have hc := fun b W => within1 n 1 50 b W
  rw [ho] at hc
  clear ho
  go_enter Try.func11, Try.ntmps11
  go_wp2_with (go_at_call 12; refine (hc _ _ ?_ ?_).mono ?_; simp; simp; rintro e w' ⟨rfl, hb⟩)
  go_ret
  exact ⟨rfl, laid_below hb⟩

set_option maxHeartbeats 400000 in
theorem isPlan_any (size s a : Int) (h : 0 ≤ s ∧ s ≤ size) (h' : 0 ≤ a ∧ a ≤ s) (w : World) :
    Calls Try.prog 13 #[.int .i64 size, .agg #[.int .i64 s, .int .i64 a]] w fun e w' => e = .returned (.bool true) ∧ Below w.heap.size w w' := by
  have ho : allIn 0 size [s] = true := by rw [in_one]; simpa using h
  have ho' : allIn 0 s [a] = true := by rw [in_one]; simpa using h'
  have hc := fun b W => within1 s 0 size b W
  have hc' := fun b W => within1 a 0 s b W
  rw [ho] at hc
  rw [ho'] at hc'
  clear ho ho'
  have HS := Lib.hid (fun w1 => boxed2 (w := w) (w1 := w1) (x := .int .i64 s) (y := .int .i64 a) (T := 38) (o := .cells #[.int .i64 s] 3))
  go_enter Try.func13, Try.ntmps13
  go_wp2_with (first | (go_at_call_of 12 size; (with_reducible refine (hc _ _ ?_ ?_).mono ?_); simp; simp; rintro e w1 ⟨rfl, hb⟩; obtain ⟨k0, k1, hb1⟩ := HS.out w1 hb; clear hb) | (go_at_call_of 12 s; (with_reducible refine (hc' _ _ ?_ ?_).mono ?_); simp; simp; rintro e w2 ⟨rfl, hb2⟩))
  go_ret
  exact ⟨rfl, hb1.trans ((laid_below hb2).mono hb1.size)⟩

end Go.Proofs.Ytkdfecmbhijgnaa
