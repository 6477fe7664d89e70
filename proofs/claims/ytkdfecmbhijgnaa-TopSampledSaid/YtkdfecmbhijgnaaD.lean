/-
  lot.passes adds up the products of the ways: psum, for lots of at most 50 pieces.
-/
import Derived.Test.YtkdfecmbhijgnaaC
namespace Go.Proofs.Ytkdfecmbhijgnaa
open Go.RowKit

/-- row n of the triangle -/
def rowOf (T : Array Value) (n : Nat) : Array Value := T.extract (n * 51) (n * 51 + 51)
theorem size56 (w : World) : (sizeOf 56).run Try.prog w = .ok 51 w := by kernel_rfl
theorem agg56 (w : World) : (isAgg 56).run Try.prog w = .ok true w := by kernel_rfl
theorem agg3 (w : World) : (isAgg 3).run Try.prog w = .ok false w := by kernel_rfl
theorem size3 (w : World) : (sizeOf 3).run Try.prog w = .ok 1 w := by kernel_rfl
theorem ix58 {T : Array Value} {n : Nat} (hn : n < 51) (w : World) : (Instr.index 58 (.agg T) (.int .i64 n)).run Try.prog w = .ok (.agg (rowOf T n)) w := by
  have h1 : (0 : Int) ≤ (n : Int) ∧ (n : Int) < ((51 : Nat) : Int) := by omega
  have h0 : (asIntOf (.int .i64 n)).run Try.prog w = .ok (.i64, (n : Int)) w := rfl
  unfold Instr.index part
  simp only [Sem.run_bind, run_underlying Try.underlying58, h0, Result.andThen_ok, if_pos h1, size56, agg56, if_true, Sem.run_pure, Int.toNat_natCast]
  rfl
theorem ix56 {T : Array Value} {k : Nat} {v : Value} (hk : k < 51) (hv : T[k]? = some v) (w : World) : (Instr.index 56 (.agg T) (.int .i64 k)).run Try.prog w = .ok v w := by
  have h1 : (0 : Int) ≤ (k : Int) ∧ (k : Int) < ((51 : Nat) : Int) := by omega
  have h0 : (asIntOf (.int .i64 k)).run Try.prog w = .ok (.i64, (k : Int)) w := rfl
  unfold Instr.index part
  simp only [Sem.run_bind, run_underlying Try.underlying56, h0, Result.andThen_ok, if_pos h1, size3, agg3, Sem.run_pure, Int.toNat_natCast, Nat.mul_one, Bool.false_eq_true, if_false, hv]

theorem tri_cut {n k : Nat} (hn : n < 51) (hk : k < 51) : (rowOf tri n)[k]? = some (.int .i64 (ch n k)) := by
  unfold rowOf
  rw [Array.getElem?_extract, if_pos (by rw [tri_size]; omega)]
  unfold tri
  rw [triN_get (by omega), show (n * 51 + k) / 51 = n by omega, show (n * 51 + k) % 51 = k by omega]

theorem ix58' {n : Nat} (i : Int) (hi : i = n) (hn : n < 51) (w : World) : (Instr.index 58 (.agg tri) (.int .i64 i)).run Try.prog w = .ok (.agg (rowOf tri n)) w := by
  subst hi; exact ix58 hn w
theorem ix56' {n k : Nat} (i : Int) (hi : i = k) (hn : n < 51) (hk : k < 51) (w : World) : (Instr.index 56 (.agg (rowOf tri n)) (.int .i64 i)).run Try.prog w = .ok (.int .i64 (ch n k)) w := by
  subst hi; exact ix56 hk (tri_cut hn hk) w

theorem held_more {w W W' : World} {v : Value} (h : W.cell? ⟨w.heap.size, 0, none⟩ = some v ∧ Below w.heap.size w W ∧ w.heap.size < W.heap.size) (hb : Below W.heap.size W W') :
    W'.cell? ⟨w.heap.size, 0, none⟩ = some v ∧ Below w.heap.size w W' ∧ w.heap.size < W'.heap.size :=
  ⟨(hb.cell (p := ⟨w.heap.size, 0, none⟩) h.2.2).trans h.1, h.2.1.trans (hb.mono h.2.1.size), Nat.lt_of_lt_of_le h.2.2 hb.size⟩

set_option maxHeartbeats 400000 in
theorem passes_any (N b s a : Nat) (hN : N ≤ 50) (hb : b ≤ N) (hs : s ≤ N) (ha : a ≤ s) (w : World) :
    Calls Try.prog 14 #[.int .i64 N, .int .i64 b, .agg #[.int .i64 s, .int .i64 a]] w fun e w' => e = .returned (.int .i64 (psum b (N - b) s (a + 1))) ∧ Below w.heap.size w w' := by
  go_enter Try.func14, Try.ntmps14
  go_wp2
  go_loopw [6, 11] (fun n i wr => ∃ k : Nat, k ≤ a + 1 ∧ i = .int .i64 k ∧ n = .int .i64 (psum b (N - b) s k) ∧ wr.cell? ⟨w.heap.size, 0, none⟩ = some (.int .i64 s) ∧ Below w.heap.size w wr ∧ w.heap.size < wr.heap.size) (fun _ i _ => a + 1 - (intOf i).toNat)
  case atStart => exact ⟨0, by omega, rfl, rfl, by simp, (Below.refl _ _).alloc (Nat.le_refl _) _, by simp⟩
  case round =>
    obtain ⟨k, hk, rfl, rfl, hcell, hbw, hsz⟩ := hrel
    have hp : psum b (N - b) s k ≤ ch N s := by
      have := psum_le (b := b) (g := N - b) (s := s) (k := k) (by omega)
      rwa [show b + (N - b) = N by omega] at this
    have hp2 := ch_small (n := N) (k := s) (by omega)
    by_cases hlt : k < a + 1
    · by_cases hkb : k ≤ b
      · by_cases hg : s - k ≤ N - b
        · have hw : (0 : Int) ≤ (s : Int) - k ∧ (s : Int) - k ≤ (N : Int) - b := by omega
          have HW := Lib.hid hw
          clear hw
          have f1 := ix58' (n := b) b rfl (by omega)
          have f2 := ix56' (n := b) (k := k) k rfl (by omega) (by omega)
          have f3 := ix58' (n := N - b) ((N : Int) - b) (by omega) (by omega)
          have f4 := ix56' (n := N - b) (k := s - k) ((s : Int) - k) (by omega) (by omega) (by omega)
          have hpn : psum b (N - b) s (k + 1) ≤ ch N s := by
            have := psum_le (b := b) (g := N - b) (s := s) (k := k + 1) (by omega)
            rwa [show b + (N - b) = N by omega] at this
          have HP : Hid (psum b (N - b) s (k + 1) = psum b (N - b) s k + ch b k * ch (N - b) (s - k)) := rfl
          have hpn2 : psum b (N - b) s k + ch b k * ch (N - b) (s - k) ≤ ch N s := by rw [← HP.out]; exact hpn
          clear hpn
          go_wp2_with (go_at_call 12; refine (within1_yes ((s : Int) - k) 0 ((N : Int) - b) _ _ HW.out ?_ ?_).mono ?_; simp; simp; rintro e w1 ⟨rfl, hb1⟩; have hb2 := laid_below hb1; clear hb1)
          have hc1 : w1.cell? ⟨w.heap.size, 0, none⟩ = some (.int .i64 s) := (hb2.cell (p := ⟨w.heap.size, 0, none⟩) hsz).trans hcell
          have hB1 : Below w.heap.size w w1 := hbw.trans (hb2.mono hbw.size)
          have hs1 : w.heap.size < w1.heap.size := Nat.lt_of_lt_of_le hsz hb2.size
          clear hb2 hcell hbw hsz
          have v1 : IntKind.i64.wrap ((N : Int) - b) = (N : Int) - b := IntWalk.i64_in _ (by omega)
          have v2 : IntKind.i64.wrap ((s : Int) - k) = (s : Int) - k := IntWalk.i64_in _ (by omega)
          have v3 : IntKind.i64.wrap ((ch b k : Int) * (ch (N - b) (s - k) : Int)) = (ch b k : Int) * (ch (N - b) (s - k) : Int) := by rw [← Int.natCast_mul]; exact IntWalk.i64_in _ (by omega)
          have v4 : IntKind.i64.wrap ((psum b (N - b) s k : Int) + (ch b k : Int) * (ch (N - b) (s - k) : Int)) = (psum b (N - b) s k : Int) + (ch b k : Int) * (ch (N - b) (s - k) : Int) := by rw [← Int.natCast_mul]; exact IntWalk.i64_in _ (by omega)
          go_region_held3 (fun w' => w'.cell? ⟨w.heap.size, 0, none⟩ = some (.int .i64 s) ∧ Below w.heap.size w w' ∧ w.heap.size < w'.heap.size)
            (first | assumption | exact ⟨hc1, hB1.drew, hs1⟩ | (refine held_more ?_ hb2; assumption))
            (first | (go_at_call 15; refine (ways_any _).mono ?_; rintro e w2 ⟨rfl, hb2⟩))
          all_goals
            clear v1 v2 v3 v4 f1 f2 f3 f4 hc1 hB1 hs1
            have hq : w2.cell? ⟨w.heap.size, 0, none⟩ = some (.int .i64 s) ∧ Below w.heap.size w w2 ∧ w.heap.size < w2.heap.size := by assumption
            go_wp2
            go_roundw
            case rel =>
              refine ⟨k + 1, by omega, by go_num, ?_, hq⟩
              rw [HP.out]; simp
            case measure => simp [intOf]; omega
        · have hw : ¬ ((0 : Int) ≤ (s : Int) - k ∧ (s : Int) - k ≤ (N : Int) - b) := by omega
          have HW := Lib.hid hw
          clear hw
          have HP : Hid (psum b (N - b) s (k + 1) = psum b (N - b) s k) := Lib.hid (by rw [psum, ch_over (N - b) (s - k) (by omega)]; omega)
          go_wp2_with (go_at_call 12; refine (within1_no ((s : Int) - k) 0 ((N : Int) - b) _ _ HW.out ?_ ?_).mono ?_; simp; simp; rintro e w1 ⟨rfl, hb1⟩; have hb2 := laid_below hb1; clear hb1)
          go_roundw
          case rel => exact ⟨k + 1, by omega, by go_num, by rw [HP.out], (hb2.cell (p := ⟨w.heap.size, 0, none⟩) hsz).trans hcell, hbw.trans (hb2.mono hbw.size), Nat.lt_of_lt_of_le hsz hb2.size⟩
          case measure => simp [intOf]; omega
      · have HP : Hid (psum b (N - b) s (k + 1) = psum b (N - b) s k) := Lib.hid (by rw [psum, ch_over b k (by omega)]; omega)
        have hkb' : (b : Int) < k := by omega
        go_wp2_with fail
        go_roundw
        case rel => exact ⟨k + 1, by omega, by go_num, by rw [HP.out], hcell, hbw, hsz⟩
        case measure => simp [intOf]; omega
    · obtain rfl : k = a + 1 := by omega
      go_wp2
      go_ret
      exact ⟨rfl, hbw⟩

end Go.Proofs.Ytkdfecmbhijgnaa
