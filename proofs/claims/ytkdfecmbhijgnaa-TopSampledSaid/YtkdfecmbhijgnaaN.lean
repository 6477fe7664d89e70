/-
  The strict order of causes, and that a sorted list of them is the only one; no program in it.
-/
import Derived.Test.YtkdfecmbhijgnaaH
namespace Go.Proofs.Ytkdfecmbhijgnaa

/-- the order of the causes: by kind, machine, number -/
def ltK (x y : Key) : Prop := x.k < y.k ∨ x.k = y.k ∧ (x.m < y.m ∨ x.m = y.m ∧ x.n < y.n)
instance (x y : Key) : Decidable (ltK x y) := by unfold ltK; infer_instance

theorem cmpI_cases (a b : Int) : (a < b ∧ cmpI a b = -1) ∨ (a = b ∧ cmpI a b = 0) ∨ (b < a ∧ cmpI a b = 1) := by
  unfold cmpI
  by_cases h1 : a < b
  · left; exact ⟨h1, if_pos h1⟩
  · by_cases h2 : b < a
    · right; right; exact ⟨h2, by rw [if_neg h1, if_pos h2]⟩
    · right; left; exact ⟨by omega, by rw [if_neg h1, if_neg h2]⟩

theorem cmpK_lt (x y : Key) : cmpK x y < 0 ↔ ltK x y := by
  unfold cmpK ltK
  rcases cmpI_cases x.k y.k with ⟨h1, e1⟩ | ⟨h1, e1⟩ | ⟨h1, e1⟩ <;>
  rcases cmpI_cases x.m y.m with ⟨h2, e2⟩ | ⟨h2, e2⟩ | ⟨h2, e2⟩ <;>
  rcases cmpI_cases x.n y.n with ⟨h3, e3⟩ | ⟨h3, e3⟩ | ⟨h3, e3⟩ <;>
  rw [e1, e2, e3] <;> simp [firstOf] <;> omega

theorem key_eq {x y : Key} (h1 : x.k = y.k) (h2 : x.m = y.m) (h3 : x.n = y.n) : x = y := by
  cases x; cases y; simp_all

theorem ltK_total (x y : Key) (h : x ≠ y) : ltK x y ∨ ltK y x := by
  unfold ltK
  by_cases e1 : x.k = y.k
  · by_cases e2 : x.m = y.m
    · by_cases e3 : x.n = y.n
      · exact absurd (key_eq e1 e2 e3) h
      · omega
    · omega
  · omega

theorem ltK_irrefl (x : Key) : ¬ ltK x x := by unfold ltK; omega
theorem ltK_trans {x y z : Key} (h1 : ltK x y) (h2 : ltK y z) : ltK x z := by unfold ltK at *; omega
theorem ltK_asymm {x y : Key} (h1 : ltK x y) (h2 : ltK y x) : False := ltK_irrefl x (ltK_trans h1 h2)

/-- two sorted lists of which one is a permutation of the other are one -/
theorem sorted_unique : ∀ {l l' : List Key}, l.Perm l' → l.Pairwise (fun x y => ¬ ltK y x) → l'.Pairwise ltK → l = l'
  | [], l', hp, _, _ => by rw [List.nil_perm.1 hp]
  | x :: r, [], hp, _, _ => by have := hp.length_eq; simp at this
  | x :: r, y :: s, hp, h1, h2 => by
    obtain ⟨a1, b1⟩ := List.pairwise_cons.1 h1
    obtain ⟨a2, b2⟩ := List.pairwise_cons.1 h2
    have e : x = y := by
      by_cases e : x = y
      · exact e
      · have hx : x ∈ y :: s := hp.mem_iff.1 (by simp)
        have hy : y ∈ x :: r := hp.mem_iff.2 (by simp)
        have hx' : x ∈ s := by simpa [e] using hx
        have hy' : y ∈ r := by simpa [Ne.symm e] using hy
        exact absurd (a2 x hx') (a1 y hy')
    subst e
    rw [sorted_unique (List.Perm.cons_inv hp) b1 b2]

end Go.Proofs.Ytkdfecmbhijgnaa
