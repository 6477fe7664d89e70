/-
  The comparing of two causes is that of the plain keys; no condition but that the numbers fit 64 bits.
-/
import Derived.Test.YtkdfecmbhijgnaaC
namespace Go.Proofs.Ytkdfecmbhijgnaa
open Go.RowKit

def cmpI (a b : Int) : Int := if a < b then -1 else if b < a then 1 else 0

set_option maxHeartbeats 400000 in
theorem cmpInt_any (a b : Int) (w : World) : Calls Try.prog 28 #[.int .i64 a, .int .i64 b] w fun e w' => e = .returned (.int .i64 (cmpI a b)) ∧ w = w' := by
  unfold cmpI
  by_cases h1 : a < b
  · have hn : ¬ b < a := by omega
    rw [if_pos h1]
    go_enter Try.func28, Try.ntmps28
    go_wp2
    go_ret
    exact ⟨rfl, rfl⟩
  · rw [if_neg h1]
    by_cases h2 : b < a
    · rw [if_pos h2]
      go_enter Try.func28, Try.ntmps28
      go_wp2
      go_ret
      exact ⟨rfl, rfl⟩
    · rw [if_neg h2]
      go_enter Try.func28, Try.ntmps28
      go_wp2
      go_ret
      exact ⟨rfl, rfl⟩

set_option maxHeartbeats 400000 in
theorem cmpKind_any (a b : Int) (w : World) : Calls Try.prog 27 #[.int .i64 a, .int .i64 b] w fun e w' => e = .returned (.int .i64 (cmpI a b)) ∧ w = w' := by
  unfold cmpI
  by_cases h1 : a < b
  · have hn : ¬ b < a := by omega
    rw [if_pos h1]
    go_enter Try.func27, Try.ntmps27
    go_wp2
    go_ret
    exact ⟨rfl, rfl⟩
  · rw [if_neg h1]
    by_cases h2 : b < a
    · rw [if_pos h2]
      go_enter Try.func27, Try.ntmps27
      go_wp2
      go_ret
      exact ⟨rfl, rfl⟩
    · rw [if_neg h2]
      go_enter Try.func27, Try.ntmps27
      go_wp2
      go_ret
      exact ⟨rfl, rfl⟩

/-- the first number that is not 0; 0 if there is none -/
def firstOf : List Int → Int
  | [] => 0
  | x :: r => if x ≠ 0 then x else firstOf r

set_option maxHeartbeats 400000 in
theorem or_any (xs : List Int) (b : Nat) (w : World) (hn : xs.length ≤ 1000)
    (hx : ∀ i, i < xs.length → w.cell? ⟨b, i, none⟩ = some (.int .i64 (xs.getD i 0))) :
    Calls Try.prog 26 #[.slice (some ⟨b, 0, none⟩) xs.length xs.length] w fun e w' => e = .returned (.int .i64 (firstOf xs)) ∧ w = w' := by
  go_enter Try.func26, Try.ntmps26
  go_wp2
  go_loop [8] (fun i => ∃ k : Nat, k ≤ xs.length ∧ i = .int .i64 k ∧ firstOf xs = firstOf (xs.drop k)) (fun i => xs.length - (intOf i).toNat)
  case atStart => exact ⟨0, Nat.zero_le _, rfl, rfl⟩
  case round =>
    obtain ⟨k, hk, rfl, hi⟩ := hrel
    have HI := Lib.hid hi
    clear hi
    by_cases hlt : k < xs.length
    · have hc := hx k hlt
      have hdr : Hid (xs.drop k = xs[k] :: xs.drop (k + 1)) := Lib.hid (List.drop_eq_getElem_cons hlt)
      by_cases h0 : xs[k] = 0
      · have HZ := Lib.hid h0
        have h1 : (xs[k] != 0) = false := by simpa using h0
        clear h0
        go_wp2
        go_round
        case rel => exact ⟨k + 1, by omega, by go_num, by rw [HI.out, hdr.out, firstOf, if_neg (by simp [HZ.out])]⟩
        case measure => simp [intOf]; omega
      · have HZ := Lib.hid h0
        have h1 : (xs[k] != 0) = true := by simpa using h0
        clear h0
        go_wp2
        go_ret
        refine ⟨ret_int ?_, rfl⟩
        rw [HI.out, hdr.out, firstOf, if_pos HZ.out]
    · go_wp2
      go_ret
      refine ⟨ret_int ?_, rfl⟩
      rw [HI.out, List.drop_eq_nil_of_le (by omega), firstOf]

theorem or3_any (x y z : Int) (b : Nat) (w : World) (h0 : w.cell? ⟨b, 0, none⟩ = some (.int .i64 x)) (h1 : w.cell? ⟨b, 1, none⟩ = some (.int .i64 y)) (h2 : w.cell? ⟨b, 2, none⟩ = some (.int .i64 z)) :
    Calls Try.prog 26 #[.slice (some ⟨b, 0, none⟩) 3 3] w fun e w' => e = .returned (.int .i64 (firstOf [x, y, z])) ∧ w = w' :=
  or_any [x, y, z] b w (by simp) (fun i hi => by
    have : i = 0 ∨ i = 1 ∨ i = 2 := by simp at hi; omega
    rcases this with rfl | rfl | rfl
    · exact h0
    · exact h1
    · exact h2)


/-- a cause: its kind, its machine, its number -/
structure Key where
  k : Int
  m : Int
  n : Int
  deriving DecidableEq, Inhabited

def Key.cells (x : Key) : List Value := [.int .i64 x.k, .int .i64 x.m, .int .i64 x.n]
def cmpK (x y : Key) : Int := firstOf [cmpI x.k y.k, cmpI x.m y.m, cmpI x.n y.n]

theorem new3 (W : World) (A B : Obj) (c : Array Value) (j : Nat) : (((W.alloc A).alloc B).alloc (.cells c 3)).drew.cell? ⟨W.heap.size + 1 + 1, j, none⟩ = c[j]? := by
  have h := heap_alloc_new ((W.alloc A).alloc B) (.cells c 3)
  have e : ((W.alloc A).alloc B).heap.size = W.heap.size + 1 + 1 := by simp
  rw [e] at h
  exact cell_of_row (((W.alloc A).alloc B).alloc (.cells c 3)) _ j c 3 (0, 0) h

set_option maxHeartbeats 1000000 in
theorem cmpK_any (x y : Key) (w : World) : Calls Try.prog 25 #[.agg #[.int .i64 x.k, .int .i64 x.m, .int .i64 x.n], .agg #[.int .i64 y.k, .int .i64 y.m, .int .i64 y.n]] w
    fun e w' => e = .returned (.int .i64 (cmpK x y)) ∧ w' = ((w.alloc (.cells #[.int .i64 x.k, .int .i64 x.m, .int .i64 x.n] 35)).alloc (.cells #[.int .i64 y.k, .int .i64 y.m, .int .i64 y.n] 35)).drew.alloc (.cells #[.int .i64 (cmpI x.k y.k), .int .i64 (cmpI x.m y.m), .int .i64 (cmpI x.n y.n)] 3) := by
  obtain ⟨xk, xm, xn⟩ := x
  obtain ⟨yk, ym, yn⟩ := y
  show Calls Try.prog 25 _ _ (fun e w' => e = .returned (.int .i64 (firstOf [cmpI xk yk, cmpI xm ym, cmpI xn yn])) ∧ w' = _)
  generalize ea : cmpI xk yk = a
  generalize eb : cmpI xm ym = b
  generalize ec : cmpI xn yn = c
  have ca := fun W => cmpKind_any xk yk W
  have cb := fun W => cmpInt_any xm ym W
  have cc := fun W => cmpInt_any xn yn W
  rw [ea] at ca
  rw [eb] at cb
  rw [ec] at cc
  clear ea eb ec
  go_enter Try.func25, Try.ntmps25
  go_wp2
  go_region_held3 (fun w' => w'.cell? ⟨w.heap.size, 0, none⟩ = some (.int .i64 xk) ∧ w'.cell? ⟨w.heap.size, 1, none⟩ = some (.int .i64 xm) ∧ w'.cell? ⟨w.heap.size, 2, none⟩ = some (.int .i64 xn) ∧
      w'.cell? ⟨w.heap.size + 1, 0, none⟩ = some (.int .i64 yk) ∧ w'.cell? ⟨w.heap.size + 1, 1, none⟩ = some (.int .i64 ym) ∧ w'.cell? ⟨w.heap.size + 1, 2, none⟩ = some (.int .i64 yn))
    (first | assumption | (refine ⟨?_, ?_, ?_, ?_, ?_, ?_⟩ <;> go_keep))
    (first | (go_at_call 27; refine (ca _).mono ?_; rintro e w1 ⟨rfl, rfl⟩) | (go_at_call 28; (with_reducible refine (cb _).mono ?_); rintro e w1 ⟨rfl, rfl⟩) | (go_at_call 28; (with_reducible refine (cc _).mono ?_); rintro e w1 ⟨rfl, rfl⟩) | (go_at_call 26; refine (or3_any a b c _ _ (new3 _ _ _ _ 0) (new3 _ _ _ _ 1) (new3 _ _ _ _ 2)).mono ?_; rintro e w1 ⟨rfl, rfl⟩))
  go_wp2
  go_ret
  exact ⟨rfl, rfl⟩

end Go.Proofs.Ytkdfecmbhijgnaa
