/-
  The plain law of the statement TopSampled: the chance in lowest terms, its bounds, and that one more bad piece makes it no easier; for lots of at most 30 pieces.
-/
import Derived.Test.YtkdfecmbhijgnaaM
namespace Go.Proofs.Ytkdfecmbhijgnaa

/-- the chance in lowest terms, as Chance returns it -/
def num (N b s a : Nat) : Nat := psum b (N - b) s (a + 1) / Nat.gcd (psum b (N - b) s (a + 1)) (ch N s)
def den (N b s a : Nat) : Nat := ch N s / Nat.gcd (psum b (N - b) s (a + 1)) (ch N s)

theorem top_le {N b s a : Nat} (hb : b ≤ N) (ha : a ≤ s) : psum b (N - b) s (a + 1) ≤ ch N s := by
  have := psum_le (b := b) (g := N - b) (s := s) (k := a + 1) (by omega)
  rwa [show b + (N - b) = N by omega] at this

theorem gcd_at {N b s a : Nat} (hs : s ≤ N) : 0 < Nat.gcd (psum b (N - b) s (a + 1)) (ch N s) :=
  Nat.gcd_pos_of_pos_right _ (ch_pos N s hs)

theorem den_pos {N b s a : Nat} (hs : s ≤ N) : 1 ≤ den N b s a :=
  Nat.div_pos (Nat.le_of_dvd (ch_pos N s hs) (Nat.gcd_dvd_right _ _)) (gcd_at hs)

theorem num_le {N b s a : Nat} (hb : b ≤ N) (ha : a ≤ s) : num N b s a ≤ den N b s a := Nat.div_le_div_right (top_le hb ha)

theorem den_small {N b s a : Nat} (hN : N ≤ 30) : den N b s a ≤ 1073741824 := by
  refine Nat.le_trans (Nat.div_le_self _ _) (Nat.le_trans (ch_le N s) ?_)
  calc 2 ^ N ≤ 2 ^ 30 := Nat.pow_le_pow_right (by decide) hN
    _ = 1073741824 := by decide

theorem cross {p q d : Nat} (h : q ≤ p) (hg : 0 < Nat.gcd p d) (hg2 : 0 < Nat.gcd q d) : q / Nat.gcd q d * (d / Nat.gcd p d) ≤ p / Nat.gcd p d * (d / Nat.gcd q d) := by
  have e1 := Nat.div_mul_cancel (Nat.gcd_dvd_left p d)
  have e2 := Nat.div_mul_cancel (Nat.gcd_dvd_right p d)
  have e3 := Nat.div_mul_cancel (Nat.gcd_dvd_left q d)
  have e4 := Nat.div_mul_cancel (Nat.gcd_dvd_right q d)
  generalize Nat.gcd p d = g at *
  generalize Nat.gcd q d = g' at *
  generalize p / g = x at *
  generalize d / g = y at *
  generalize q / g' = x' at *
  generalize d / g' = y' at *
  have hm : x' * y * (g' * g) ≤ x * y' * (g' * g) := by
    calc x' * y * (g' * g) = (x' * g') * (y * g) := by ac_rfl
      _ = q * d := by rw [e3, e2]
      _ ≤ p * d := Nat.mul_le_mul_right d h
      _ = (x * g) * (y' * g') := by rw [e1, e4]
      _ = x * y' * (g' * g) := by ac_rfl
  exact Nat.le_of_mul_le_mul_right hm (Nat.mul_pos hg2 hg)

theorem one_more {N b s a : Nat} (hb : b ≤ N) (hs : s ≤ N) (ha : a ≤ s) :
    num N (min N (b + 1)) s a * den N b s a ≤ num N b s a * den N (min N (b + 1)) s a := by
  refine cross ?_ (gcd_at hs) (gcd_at hs)
  by_cases h : b < N
  · rw [show min N (b + 1) = b + 1 by omega]
    have := psum_more (b := b) (g := N - (b + 1)) ha
    rwa [show N - (b + 1) + 1 = N - b by omega] at this
  · rw [show min N (b + 1) = b by omega]
    exact Nat.le_refl _

theorem for_sure {N b s a : Nat} (hb : b ≤ N) (hs : s ≤ N) (ha : a ≤ s) (h : b ≤ a) : num N b s a = 1 ∧ den N b s a = 1 := by
  have hp := ch_pos N s hs
  have e := psum_sure (b := b) (g := N - b) h ha
  rw [show b + (N - b) = N by omega] at e
  unfold num den
  rw [e, Nat.gcd_self]
  exact ⟨Nat.div_self hp, Nat.div_self hp⟩

theorem never {N b s a : Nat} (hb : b ≤ N) (hs : s ≤ N) (h : N - s + a + 1 ≤ b) : num N b s a = 0 ∧ den N b s a = 1 := by
  have hp := ch_pos N s hs
  have e := psum_never (b := b) (g := N - b) (s := s) (k := a + 1) (by omega)
  unfold num den
  rw [e, Nat.gcd_zero_left]
  exact ⟨Nat.zero_div _, Nat.div_self hp⟩

end Go.Proofs.Ytkdfecmbhijgnaa
