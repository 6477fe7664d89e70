/-
  mill.Causes returns the causes of a lot in order, for at most 60 runs that are in order and apart.
-/
import Derived.Test.YtkdfecmbhijgnaaQ
namespace Go.Proofs.Ytkdfecmbhijgnaa
open Go.RowKit Go.Maps Go.Sort

def CausesDone (w : World) (ks : List Key) (e : Ending) (w' : World) : Prop := ∃ g cap, e = .returned (.tuple #[.slice (some ⟨g, 0, none⟩) ks.length cap, .int .i64 0]) ∧ g < w'.heap.size ∧ KeysAt w' g ks ∧ Below w.heap.size w w'

theorem puts_wf {rs : List Run} {lm lf lt : Int} (hok : ∀ i, (h : i < rs.length) → rs[i].ok) (hl : (0 ≤ lm ∧ lm ≤ 1000) ∧ 0 ≤ lf ∧ lf ≤ lt ∧ lt ≤ 100000) : ∀ y ∈ puts rs lm lf lt, y.wf := by
  intro y hy
  obtain ⟨r, hr, hy⟩ := List.mem_flatMap.1 hy
  obtain ⟨i, hi, rfl⟩ := List.mem_iff_getElem.1 hr
  obtain ⟨⟨h1, h2, h3⟩, h4⟩ := hok i hi
  unfold putsOf at hy
  split at hy
  · rename_i hc
    rcases List.mem_cons.1 hy with rfl | hy
    · exact ⟨WalkArith.wf_i64 (by simp only; omega), WalkArith.wf_i64 (by simp only; omega), WalkArith.wf_i64 (by simp only; omega)⟩
    · rcases List.mem_cons.1 hy with rfl | hy
      · exact ⟨WalkArith.wf_i64 (by simp only; omega), WalkArith.wf_i64 (by simp only; omega), WalkArith.wf_i64 (by simp only; omega)⟩
      · unfold hoursOf at hy
        obtain ⟨j, hj, rfl⟩ := List.mem_map.1 hy
        have := List.mem_range.1 hj
        exact ⟨WalkArith.wf_i64 (by simp only; omega), WalkArith.wf_i64 (by simp only; omega), WalkArith.wf_i64 (by simp only; omega)⟩
  · cases hy

set_option maxHeartbeats 1000000 in
theorem Causes_any (rs : List Run) (b cap : Nat) (lm lf lt : Int) (ks : List Key) (w : World) (hn : rs.length ≤ 60) (hc : rs.length ≤ cap) (hcap : cap ≤ 9223372036854775807) (hb : b < w.heap.size) (hr : RunsAt w b rs)
    (hok : ∀ i, (h : i < rs.length) → rs[i].ok) (hap : ∀ i j, (h : i < rs.length) → (h2 : j < i) → rs[i].apart (rs[j]'(by omega)))
    (hl : (0 ≤ lm ∧ lm ≤ 1000) ∧ 0 ≤ lf ∧ lf ≤ lt ∧ lt ≤ 100000) (hT : (puts rs lm lf lt).length ≤ 1000)
    (hs : ks.Pairwise ltK) (he : ∀ x, x ∈ puts rs lm lf lt ↔ x ∈ ks) (hne : ks ≠ []) :
    Calls Try.prog 4 #[.slice (some ⟨b, 0, none⟩) rs.length cap, .agg #[.int .i64 lm, .int .i64 lf, .int .i64 lt]] w (CausesDone w ks) := by
  have c1 := fun W h1 h2 => Check_any rs b cap W hn hc hcap h1 h2 hok hap
  have c2 := fun W h1 h2 => causes_any rs b cap lm lf lt W hn hc hcap h1 h2 hok hl hT
  have c3 := fun W B (h : SetAt W B (puts rs lm lf lt)) => sorted_any B (puts rs lm lf lt) ks W h (puts_wf hok hl) hs he hne hT
  have HR := Lib.hid hr
  clear hr hok hap hl hT hs he hne
  have h0 := Box3.start w lm lf lt 32
  go_enter Try.func4, Try.ntmps4
  go_wp2_with (first
    | (go_at_call 8; refine (c1 _ ?_ ?_).mono ?_; (simp; omega); exact HR.out.kept hb h0.below; rintro e w1 ⟨rfl, hb1⟩; have h1 := h0.next hb1; clear h0 hb1; have q0 := h1.c0; have q1 := h1.c1; have q2 := h1.c2)
    | (go_at_call 9; refine (c2 _ ?_ ?_).mono ?_; (have := h1.size; omega); exact HR.out.kept hb h1.below; rintro e w2 ⟨B, rfl, hset, hB, hb2⟩; have h2 := h1.next hb2; clear h1 hb2 q0 q1 q2)
    | (go_at_call 10; refine (c3 _ _ hset).mono ?_; rintro e w3 ⟨g, cap', rfl, hg1, hg2, hk, hb3⟩; have h3 := h2.next hb3; clear h2 hb3 hset))
  go_ret2
  exact ⟨g, cap', rfl, hg2, hk, h3.below⟩

end Go.Proofs.Ytkdfecmbhijgnaa
