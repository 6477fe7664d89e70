/- The plain law: ways to take some of others; no program in sight. -/
namespace Go.Proofs.Ytkdfecmbhijgnaa

/-- how many ways there are to take k of n -/
def ch : Nat → Nat → Nat
  | _, 0 => 1
  | 0, _ + 1 => 0
  | n + 1, k + 1 => ch n k + ch n (k + 1)

theorem ch_zero (n : Nat) : ch n 0 = 1 := by cases n <;> rfl
theorem ch_succ (n k : Nat) : ch (n + 1) (k + 1) = ch n k + ch n (k + 1) := rfl

theorem ch_le (n : Nat) : ∀ k, ch n k ≤ 2 ^ n := by
  induction n with
  | zero => intro k; cases k <;> simp [ch]
  | succ n ih =>
    intro k
    cases k with
    | zero => simp [ch]; exact Nat.one_le_two_pow
    | succ k => have h1 := ih k; have h2 := ih (k + 1); simp only [ch]; omega

theorem ch_over (n : Nat) : ∀ k, n < k → ch n k = 0 := by
  induction n with
  | zero => intro k hk; cases k with
    | zero => omega
    | succ k => simp [ch]
  | succ n ih => intro k hk; cases k with
    | zero => omega
    | succ k => simp only [ch]; rw [ih k (by omega), ih (k + 1) (by omega)]

theorem ch_pos (n : Nat) : ∀ k, k ≤ n → 1 ≤ ch n k := by
  induction n with
  | zero => intro k hk; cases k with
    | zero => simp [ch]
    | succ k => omega
  | succ n ih => intro k hk; cases k with
    | zero => simp [ch]
    | succ k => have := ih k (by omega); simp only [ch]; omega

theorem ch_sum {n k : Nat} (hk : k < n) : (ch n (k + 1) : Int) = ch (n - 1) k + ch (n - 1) (k + 1) := by
  obtain ⟨m, rfl⟩ : ∃ m, n = m + 1 := ⟨n - 1, by omega⟩
  simp [ch]

theorem ch_small {n k : Nat} (hn : n < 51) : (ch n k : Int) ≤ 1125899906842624 := by
  have h := ch_le n k
  have h2 : 2 ^ n ≤ 2 ^ 50 := Nat.pow_le_pow_right (by omega) (by omega)
  have h3 : (2 : Nat) ^ 50 = 1125899906842624 := by decide
  omega

/-- how many samples of s pieces have fewer than k bad ones, out of b bad pieces and g good ones -/
def psum (b g s : Nat) : Nat → Nat
  | 0 => 0
  | i + 1 => psum b g s i + ch b i * ch g (s - i)

theorem psum_mono (b g s : Nat) {k l : Nat} (h : k ≤ l) : psum b g s k ≤ psum b g s l := by
  induction l with
  | zero => obtain rfl : k = 0 := by omega
            exact Nat.le_refl _
  | succ l ih =>
    by_cases e : k = l + 1
    · subst e; exact Nat.le_refl _
    · have := ih (by omega); simp only [psum]; omega

theorem psum_bad (b g s : Nat) : ∀ k, psum (b + 1) g (s + 1) (k + 1) = psum b g (s + 1) (k + 1) + psum b g s k := by
  intro k
  induction k with
  | zero => simp [psum, ch_zero]
  | succ k ih =>
    rw [psum, ih, ch_succ, psum.eq_2 b g (s + 1) (k + 1), psum.eq_2 b g s k, Nat.add_mul, Nat.add_sub_add_right]
    omega

theorem psum_good (b g s : Nat) : ∀ k, k ≤ s + 1 → psum b (g + 1) (s + 1) k = psum b g (s + 1) k + psum b g s k := by
  intro k
  induction k with
  | zero => intro _; rfl
  | succ k ih =>
    intro hk
    have e : s + 1 - k = (s - k) + 1 := by omega
    rw [psum, ih (by omega), psum, psum, e, ch_succ, Nat.mul_add]
    omega

theorem psum_none (g s : Nat) : ∀ k, psum 0 g s (k + 1) = ch g s := by
  intro k
  induction k with
  | zero => simp [psum, ch_zero]
  | succ k ih => rw [psum, ih]; simp [ch]

/-- all samples together -/
theorem psum_all (b g : Nat) : ∀ s, psum b g s (s + 1) = ch (b + g) s := by
  induction b with
  | zero => intro s; rw [psum_none, Nat.zero_add]
  | succ b ih =>
    intro s
    cases s with
    | zero => simp [psum, ch_zero]
    | succ s => rw [psum_bad, ih (s + 1), ih s, show b + 1 + g = (b + g) + 1 by omega, ch_succ]; omega

theorem psum_le {b g s k : Nat} (h : k ≤ s + 1) : psum b g s k ≤ ch (b + g) s := by
  rw [← psum_all]; exact psum_mono _ _ _ h

/-- one more bad piece makes it no easier to pass -/
theorem psum_more {b g s a : Nat} (h : a ≤ s) : psum (b + 1) g s (a + 1) ≤ psum b (g + 1) s (a + 1) := by
  by_cases e : a = s
  · subst e
    rw [psum_all, psum_all, show b + 1 + g = b + (g + 1) by omega]
    exact Nat.le_refl _
  · obtain ⟨t, rfl⟩ : ∃ t, s = t + 1 := ⟨s - 1, by omega⟩
    rw [psum_bad, psum_good _ _ _ _ (by omega)]
    have := psum_mono b g t (show a ≤ a + 1 by omega)
    omega

/-- no more bad pieces than are accepted: all pass -/
theorem psum_sure {b g s a : Nat} (h : b ≤ a) (ha : a ≤ s) : psum b g s (a + 1) = ch (b + g) s := by
  rw [← psum_all]
  have : ∀ k, a + 1 ≤ k → psum b g s k = psum b g s (a + 1) := by
    intro k
    induction k with
    | zero => omega
    | succ k ih =>
      intro hk
      by_cases e : a = k
      · subst e; rfl
      · rw [psum, ih (by omega), ch_over b k (by omega)]; omega
  rw [this (s + 1) (by omega)]

/-- more than are accepted must be in the sample: none pass -/
theorem psum_never {b g s k : Nat} (h : g + k ≤ s) : psum b g s k = 0 := by
  induction k with
  | zero => rfl
  | succ k ih => rw [psum, ih (by omega), ch_over g (s - k) (by omega)]; omega

end Go.Proofs.Ytkdfecmbhijgnaa
