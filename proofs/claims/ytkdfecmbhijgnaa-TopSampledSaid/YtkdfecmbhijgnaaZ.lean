/-
  The given example of the mill answers true; no condition.
-/
import Derived.Test.YtkdfecmbhijgnaaY
namespace Go.Proofs.Ytkdfecmbhijgnaa
open Go.RowKit Go.Maps Go.Sort

/-- the runs and the lots of the document's example -/
def runs3 : List Run := [⟨1, 0, 9, 5, 2⟩, ⟨1, 10, 19, 6, 2⟩, ⟨2, 0, 19, 6, 3⟩]
def lots2 : List Lot := [⟨1, 9, 10⟩, ⟨2, 0, 3⟩]
def sets2 (i : Nat) : List Key := if i = 0 then puts runs3 1 9 10 else puts runs3 2 0 3

theorem meet2 (x : Key) : (∀ i, i < 2 → x ∈ sets2 i) ↔ x ∈ [(⟨1, 0, 6⟩ : Key)] := by
  have h : (puts runs3 1 9 10).filter (fun x => decide (x ∈ puts runs3 2 0 3)) = [⟨1, 0, 6⟩] := by decide
  rw [← h, List.mem_filter, decide_eq_true_eq]
  constructor
  · intro g; exact ⟨g 0 (by omega), g 1 (by omega)⟩
  · rintro ⟨g0, g1⟩ i hi
    unfold sets2
    split
    · exact g0
    · exact g1

theorem cut3 {i : Nat} (h : i < 3) : i = 0 ∨ i = 1 ∨ i = 2 := by omega
theorem cut2 {i : Nat} (h : i < 2) : i = 0 ∨ i = 1 := by omega

theorem Culprits_known (b bl : Nat) (w : World) (hb : b < w.heap.size) (hr : RunsAt w b runs3) (hbl : bl < w.heap.size) (hls : LotsAt w bl lots2) :
    Calls Try.prog 19 #[.slice (some ⟨b, 0, none⟩) 3 3, .slice (some ⟨bl, 0, none⟩) 2 2, .slice none 0 0] w (CausesDone w [⟨1, 0, 6⟩]) := by
  refine Culprits_any runs3 b 3 bl 2 lots2 sets2 [⟨1, 0, 6⟩] w (by decide) (by decide) (by decide) hb hr ?_ ?_ (by decide) (by decide) hbl hls ?_ ?_ ?_ (by simp) meet2 (by simp)
  · intro i hi
    rcases cut3 hi with rfl | rfl | rfl <;> (show Run.ok _; unfold Run.ok; decide +revert)
  · intro i j hi hj
    rcases cut3 hi with rfl | rfl | rfl
    · omega
    · obtain rfl : j = 0 := by omega
      show (1 : Int) = 1 → min (9 : Int) 19 < max (0 : Int) 10
      omega
    · rcases cut2 hj with rfl | rfl
      · show (1 : Int) = 2 → min (9 : Int) 19 < max (0 : Int) 0
        omega
      · show (1 : Int) = 2 → min (19 : Int) 19 < max (10 : Int) 0
        omega
  · intro i hi
    rcases cut2 hi with rfl | rfl <;> (show Lot.ok _; unfold Lot.ok; decide +revert)
  · intro i hi
    rcases cut2 hi with rfl | rfl <;> (show (puts _ _ _ _).length ≤ 1000; decide +revert)
  · intro i hi
    rcases cut2 hi with rfl | rfl <;> rfl


theorem runs3_laid (w : World) (B : Nat) (h : w.heap[B]? = some (.cells #[.int .i64 1, .int .i64 0, .int .i64 9, .int .i64 5, .int .i64 2, .int .i64 1, .int .i64 10, .int .i64 19, .int .i64 6, .int .i64 2, .int .i64 2, .int .i64 0, .int .i64 19, .int .i64 6, .int .i64 3] 26 (0, 0))) : RunsAt w B runs3 := by
  intro i hi
  have hc := fun j => cell_of_row w B j _ _ _ h
  rcases cut3 hi with rfl | rfl | rfl <;> exact ⟨hc _, hc _, hc _, hc _, hc _⟩

theorem lots2_laid (w : World) (B : Nat) (h : w.heap[B]? = some (.cells #[.int .i64 1, .int .i64 9, .int .i64 10, .int .i64 2, .int .i64 0, .int .i64 3] 32 (0, 0))) : LotsAt w B lots2 := by
  intro i hi
  have hc := fun j => cell_of_row w B j _ _ _ h
  rcases cut2 hi with rfl | rfl <;> exact ⟨hc _, hc _, hc _⟩

theorem heap_mid (w : World) (A B C : Obj) : (((w.alloc A).alloc B).alloc C).heap[w.heap.size + 1]? = some B :=
  (Go.heap_alloc_old _ _ (by simp)).trans (heap_alloc2_new w A B)

theorem cell_first (w : World) (c : Array Value) (T : TypeId) (B C : Obj) (j : Nat) : (((w.alloc (.cells c T)).alloc B).alloc C).cell? ⟨w.heap.size, j, none⟩ = c[j]? := by
  have h1 : (((w.alloc (.cells c T)).alloc B).alloc C).heap[w.heap.size]? = some (.cells c T (0, 0)) :=
    (Go.heap_alloc_old _ _ (by simp; omega)).trans (heap_alloc2_old w _ B)
  exact cell_of_row _ _ _ _ _ _ h1

theorem heap_last (w : World) (A B C : Obj) : (((w.alloc A).alloc B).alloc C).heap[w.heap.size + 1 + 1]? = some C := by
  have h := heap_alloc_new ((w.alloc A).alloc B) C
  have e : ((w.alloc A).alloc B).heap.size = w.heap.size + 1 + 1 := by simp
  rwa [e] at h

set_option maxHeartbeats 1000000 in
theorem pubMill_any (w : World) : Calls Try.prog 7 #[] w fun e w' => e = .returned (.bool true) ∧ Below w.heap.size w w' := by
  go_enter Try.func7, Try.ntmps7
  go_wp2_with (first
    | (go_at_call 18; refine (pubSpan_any _ _ _).mono ?_; rintro e w1 ⟨rfl, rfl⟩)
    | (go_at_call 17; refine (Blank_any w.heap.size _ ?_ ?_).mono ?_; (simp; omega); (refine ⟨?_, ?_, ?_, ?_⟩ <;> simp); rintro e w2 ⟨rfl, hb2⟩)
    | (go_at_call 19; refine (Culprits_known _ _ _ ?_ ?_ ?_ ?_).mono ?_; (simp <;> omega); exact runs3_laid _ _ (heap_mid _ _ _ _); (simp <;> omega); exact lots2_laid _ _ (heap_last _ _ _ _); rintro e w3 ⟨g, cap, rfl, hg, hk, hb3⟩))
  have k0 : w3.cell? ⟨g, 0, none⟩ = some (.int .i64 1) := (hk 0 (by simp)).1
  have k1 : w3.cell? ⟨g, 1, none⟩ = some (.int .i64 0) := (hk 0 (by simp)).2.1
  have k2 : w3.cell? ⟨g, 2, none⟩ = some (.int .i64 6) := (hk 0 (by simp)).2.2
  have hB0 : Below w2.heap.size w2 w3 := (((Below.refl _ _).alloc (Nat.le_refl _) _).alloc (by simp) _).alloc (by simp; omega) _ |>.trans (hb3.mono (by simp; omega))
  have hz : w2.heap.size < w3.heap.size := by have := hb3.size; simp at this; omega
  have b0 : w3.cell? ⟨w2.heap.size, 0, none⟩ = some (.int .i64 458) := (hb3.cell (p := ⟨w2.heap.size, 0, none⟩) (by simp; omega)).trans (cell_first _ _ _ _ _ _)
  have b1 : w3.cell? ⟨w2.heap.size, 1, none⟩ = some (.int .i64 471) := (hb3.cell (p := ⟨w2.heap.size, 1, none⟩) (by simp; omega)).trans (cell_first _ _ _ _ _ _)
  have HB := Lib.hid hB0
  have HB2 := Lib.hid hb2
  clear hB0 hb3 hk hb2
  go_region_held3 (fun w' => w'.cell? ⟨w2.heap.size, 0, none⟩ = some (.int .i64 458) ∧ w'.cell? ⟨w2.heap.size, 1, none⟩ = some (.int .i64 471) ∧ w'.cell? ⟨g, 0, none⟩ = some (.int .i64 1) ∧ w'.cell? ⟨g, 1, none⟩ = some (.int .i64 0) ∧ w'.cell? ⟨g, 2, none⟩ = some (.int .i64 6))
    (first | assumption | (refine ⟨?_, ?_, ?_, ?_, ?_⟩ <;> go_keep))
    (first | (go_at_call 18; refine (pubSpan_any _ _ _).mono ?_; rintro e w4 ⟨rfl, rfl⟩))
  go_wp2
  go_ret
  refine ⟨rfl, ?_⟩
  have hz2 : w.heap.size ≤ w2.heap.size := by have := HB2.out.size; simp at this; omega
  have h1 : Below w.heap.size w w2 := (((Below.refl _ _).alloc (Nat.le_refl _) _).alloc (by simp) _).trans (HB2.out.mono (by simp; omega))
  have h2 : Below w.heap.size w w3 := h1.trans (HB.out.mono hz2)
  exact (h2.alloc h2.size _).drew

end Go.Proofs.Ytkdfecmbhijgnaa
