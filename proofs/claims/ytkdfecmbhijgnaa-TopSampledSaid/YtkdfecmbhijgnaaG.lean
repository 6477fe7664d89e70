/-
  The checks of the mill's numbers, hours and runs answer true where the numbers lie in their bounds; the hours in common of a run and a lot.
-/
import Derived.Test.YtkdfecmbhijgnaaC
namespace Go.Proofs.Ytkdfecmbhijgnaa
open Go.RowKit

set_option maxHeartbeats 400000 in
theorem isNumber_any (xs : List Int) (b : Nat) (w : World) (hn : xs.length ≤ 1000) (hb : b < w.heap.size)
    (hx : ∀ i, i < xs.length → w.cell? ⟨b, i, none⟩ = some (.int .i64 (xs.getD i 0))) :
    Calls Try.prog 22 #[.slice (some ⟨b, 0, none⟩) xs.length xs.length] w fun e w' => e = .returned (.bool (allIn 0 1000 xs)) ∧ Below w.heap.size w w' := by
  have hc := within_mill xs b 0 1000 w hn hb hx
  clear hx
  go_enter Try.func22, Try.ntmps22
  go_wp2_with (go_at_call 34; refine hc.mono ?_; rintro e w' ⟨rfl, hb⟩)
  go_ret
  exact ⟨rfl, hb⟩

theorem isNumber1 (x : Int) (b : Nat) (w : World) (h : 0 ≤ x ∧ x ≤ 1000) (hb : b < w.heap.size) (hx : w.cell? ⟨b, 0, none⟩ = some (.int .i64 x)) :
    Calls Try.prog 22 #[.slice (some ⟨b, 0, none⟩) 1 1] w fun e w' => e = .returned (.bool true) ∧ Below w.heap.size w w' :=
  (isNumber_any [x] b w (by simp) hb (fun i hi => by obtain rfl : i = 0 := by simpa using hi
                                                     exact hx)).mono fun e w' ⟨h1, h2⟩ => ⟨by rw [h1, in_one, decide_eq_true h], h2⟩

theorem in_cons (l m x : Int) (r : List Int) : allIn l m (x :: r) = (decide (l ≤ x ∧ x ≤ m) && allIn l m r) := by
  rw [← in_one]; unfold allIn; simp

theorem isNumber3 (x y z : Int) (b : Nat) (w : World) (h : (0 ≤ x ∧ x ≤ 1000) ∧ (0 ≤ y ∧ y ≤ 1000) ∧ 0 ≤ z ∧ z ≤ 1000) (hb : b < w.heap.size)
    (h0 : w.cell? ⟨b, 0, none⟩ = some (.int .i64 x)) (h1 : w.cell? ⟨b, 1, none⟩ = some (.int .i64 y)) (h2 : w.cell? ⟨b, 2, none⟩ = some (.int .i64 z)) :
    Calls Try.prog 22 #[.slice (some ⟨b, 0, none⟩) 3 3] w fun e w' => e = .returned (.bool true) ∧ Below w.heap.size w w' :=
  (isNumber_any [x, y, z] b w (by simp) hb (fun i hi => by
    have : i = 0 ∨ i = 1 ∨ i = 2 := by simp at hi; omega
    rcases this with rfl | rfl | rfl
    · exact h0
    · exact h1
    · exact h2)).mono fun e w' ⟨k1, k2⟩ => ⟨by rw [k1, in_cons, in_cons, in_one, decide_eq_true h.1, decide_eq_true h.2.1, decide_eq_true h.2.2]; rfl, k2⟩

theorem withinM1 (x l m : Int) (b : Nat) (w : World) (h : l ≤ x ∧ x ≤ m) (hb : b < w.heap.size) (hx : w.cell? ⟨b, 0, none⟩ = some (.int .i64 x)) :
    Calls Try.prog 34 #[.int .i64 l, .int .i64 m, .slice (some ⟨b, 0, none⟩) 1 1] w fun e w' => e = .returned (.bool true) ∧ Below w.heap.size w w' :=
  (within_mill [x] b l m w (by simp) hb (fun i hi => by obtain rfl : i = 0 := by simpa using hi
                                                        exact hx)).mono fun e w' ⟨h1, h2⟩ => ⟨by rw [h1, in_one, decide_eq_true h], h2⟩

theorem withinM2 (x y l m : Int) (b : Nat) (w : World) (h : (l ≤ x ∧ x ≤ m) ∧ l ≤ y ∧ y ≤ m) (hb : b < w.heap.size) (h0 : w.cell? ⟨b, 0, none⟩ = some (.int .i64 x)) (h1 : w.cell? ⟨b, 1, none⟩ = some (.int .i64 y)) :
    Calls Try.prog 34 #[.int .i64 l, .int .i64 m, .slice (some ⟨b, 0, none⟩) 2 2] w fun e w' => e = .returned (.bool true) ∧ Below w.heap.size w w' :=
  (within_mill [x, y] b l m w (by simp) hb (fun i hi => by
    have : i = 0 ∨ i = 1 := by simp at hi; omega
    rcases this with rfl | rfl
    · exact h0
    · exact h1)).mono fun e w' ⟨k1, k2⟩ => ⟨by rw [k1, in_cons, in_one, decide_eq_true h.1, decide_eq_true h.2]; rfl, k2⟩

set_option maxHeartbeats 400000 in
theorem areHours_yes (x y : Int) (h : 0 ≤ x ∧ x ≤ y ∧ y ≤ 100000) (w : World) :
    Calls Try.prog 23 #[.int .i64 x, .int .i64 y] w fun e w' => e = .returned (.bool true) ∧ Below w.heap.size w w' := by
  go_enter Try.func23, Try.ntmps23
  go_wp2_with (go_at_call 34; refine (withinM2 x y 0 100000 _ _ ?_ ?_ ?_ ?_).mono ?_; omega; simp; simp; simp; rintro e w' ⟨rfl, hb⟩)
  go_ret
  exact ⟨rfl, laid_below hb⟩

/-- a run: machine, first hour, last hour, coil, die -/
structure Run where
  m : Int
  f : Int
  t : Int
  c : Int
  d : Int

def Run.cells (r : Run) : Array Value := #[.int .i64 r.m, .int .i64 r.f, .int .i64 r.t, .int .i64 r.c, .int .i64 r.d]
def Run.ok (r : Run) : Prop := ((0 ≤ r.m ∧ r.m ≤ 1000) ∧ (0 ≤ r.c ∧ r.c ≤ 1000) ∧ 0 ≤ r.d ∧ r.d ≤ 1000) ∧ 0 ≤ r.f ∧ r.f ≤ r.t ∧ r.t ≤ 100000

/-- the runs lie in block b -/
def RunsAt (w : World) (b : Nat) (rs : List Run) : Prop := ∀ i, (h : i < rs.length) →
  w.cell? ⟨b, i * 5, none⟩ = some (.int .i64 rs[i].m) ∧ w.cell? ⟨b, i * 5 + 1, none⟩ = some (.int .i64 rs[i].f) ∧ w.cell? ⟨b, i * 5 + 2, none⟩ = some (.int .i64 rs[i].t) ∧
  w.cell? ⟨b, i * 5 + 3, none⟩ = some (.int .i64 rs[i].c) ∧ w.cell? ⟨b, i * 5 + 4, none⟩ = some (.int .i64 rs[i].d)

theorem RunsAt.kept {w W : World} {b : Nat} {rs : List Run} (h : RunsAt w b rs) (hb : b < w.heap.size) (hB : Below w.heap.size w W) : RunsAt W b rs := fun i hi =>
  have k := h i hi
  ⟨(hB.cell (p := ⟨b, _, none⟩) hb).trans k.1, (hB.cell (p := ⟨b, _, none⟩) hb).trans k.2.1, (hB.cell (p := ⟨b, _, none⟩) hb).trans k.2.2.1, (hB.cell (p := ⟨b, _, none⟩) hb).trans k.2.2.2.1, (hB.cell (p := ⟨b, _, none⟩) hb).trans k.2.2.2.2⟩

/-- no hour of y is one of x's, on its machine -/
def Run.apart (x y : Run) : Prop := y.m = x.m → min y.t x.t < max y.f x.f

theorem boxed5 {w w1 : World} {x0 x1 x2 x3 x4 : Value} {T : TypeId} {o : Obj} (h : Below ((w.alloc (.cells #[x0, x1, x2, x3, x4] T)).alloc o).heap.size ((w.alloc (.cells #[x0, x1, x2, x3, x4] T)).alloc o) w1) :
    w1.cell? ⟨w.heap.size, 0, none⟩ = some x0 ∧ w1.cell? ⟨w.heap.size, 1, none⟩ = some x1 ∧ w1.cell? ⟨w.heap.size, 2, none⟩ = some x2 ∧ w1.cell? ⟨w.heap.size, 3, none⟩ = some x3 ∧ w1.cell? ⟨w.heap.size, 4, none⟩ = some x4 ∧ Below w.heap.size w w1 :=
  ⟨(h.cell (p := ⟨w.heap.size, 0, none⟩) (by simp; omega)).trans (by simp), (h.cell (p := ⟨w.heap.size, 1, none⟩) (by simp; omega)).trans (by simp),
   (h.cell (p := ⟨w.heap.size, 2, none⟩) (by simp; omega)).trans (by simp), (h.cell (p := ⟨w.heap.size, 3, none⟩) (by simp; omega)).trans (by simp),
   (h.cell (p := ⟨w.heap.size, 4, none⟩) (by simp; omega)).trans (by simp), ((Below.refl _ _).alloc (Nat.le_refl _) _).trans ((laid_below h).mono (by simp))⟩

set_option maxHeartbeats 400000 in
theorem isValid_yes (m f t c d : Int) (h : ((0 ≤ m ∧ m ≤ 1000) ∧ (0 ≤ c ∧ c ≤ 1000) ∧ 0 ≤ d ∧ d ≤ 1000) ∧ 0 ≤ f ∧ f ≤ t ∧ t ≤ 100000) (w : World) :
    Calls Try.prog 20 #[.agg #[.int .i64 m, .int .i64 f, .int .i64 t, .int .i64 c, .int .i64 d]] w fun e w' => e = .returned (.bool true) ∧ Below w.heap.size w w' := by
  have H1 := Lib.hid h.1
  have H2 := Lib.hid h.2
  clear h
  have HS := Lib.hid (fun w1 => boxed5 (w := w) (w1 := w1) (x0 := .int .i64 m) (x1 := .int .i64 f) (x2 := .int .i64 t) (x3 := .int .i64 c) (x4 := .int .i64 d) (T := 72) (o := .cells #[.int .i64 m, .int .i64 c, .int .i64 d] 3))
  go_enter Try.func20, Try.ntmps20
  go_wp2_with (first | (go_at_call 22; refine (isNumber3 m c d _ _ H1.out ?_ ?_ ?_ ?_).mono ?_; simp; simp; simp; simp; rintro e w1 ⟨rfl, hb⟩; obtain ⟨k0, k1, k2, k3, k4, hb1⟩ := HS.out w1 hb; clear hb) | (go_at_call 23; refine (areHours_yes f t H2.out _).mono ?_; rintro e w2 ⟨rfl, hb2⟩))
  go_ret
  exact ⟨rfl, hb1.trans (hb2.mono hb1.size)⟩


set_option maxHeartbeats 400000 in
theorem hours_no (m f t c d m' f' t' : Int) (h : m ≠ m') (w : World) :
    Calls Try.prog 21 #[.agg #[.int .i64 m, .int .i64 f, .int .i64 t, .int .i64 c, .int .i64 d], .int .i64 m', .int .i64 f', .int .i64 t'] w fun e w' => e = .returned (.tuple #[.int .i64 1, .int .i64 0]) ∧ Below w.heap.size w w' := by
  have h1 : (m != m') = true := by simpa using h
  clear h
  go_enter Try.func21, Try.ntmps21
  go_wp2
  go_ret2
  exact ⟨rfl, (Below.refl _ _).alloc (Nat.le_refl _) _⟩

set_option maxHeartbeats 400000 in
theorem hours_yes (m f t c d f' t' : Int) (w : World) :
    Calls Try.prog 21 #[.agg #[.int .i64 m, .int .i64 f, .int .i64 t, .int .i64 c, .int .i64 d], .int .i64 m, .int .i64 f', .int .i64 t'] w fun e w' => e = .returned (.tuple #[.int .i64 (max f f'), .int .i64 (min t t')]) ∧ Below w.heap.size w w' := by
  by_cases h1 : f' ≤ f
  · by_cases h2 : t ≤ t'
    · have a1 : max f f' = f := by omega
      have a2 : min t t' = t := by omega
      rw [a1, a2]
      clear a1 a2
      go_enter Try.func21, Try.ntmps21
      go_wp2
      go_region
      go_wp2
      go_ret2
      exact ⟨rfl, ((Below.refl _ _).alloc (Nat.le_refl _) _).drew⟩
    · have a1 : max f f' = f := by omega
      have a2 : min t t' = t' := by omega
      rw [a1, a2]
      clear a1 a2
      go_enter Try.func21, Try.ntmps21
      go_wp2
      go_region
      go_wp2
      go_ret2
      exact ⟨rfl, ((Below.refl _ _).alloc (Nat.le_refl _) _).drew⟩
  · by_cases h2 : t ≤ t'
    · have a1 : max f f' = f' := by omega
      have a2 : min t t' = t := by omega
      rw [a1, a2]
      clear a1 a2
      go_enter Try.func21, Try.ntmps21
      go_wp2
      go_region
      go_wp2
      go_ret2
      exact ⟨rfl, ((Below.refl _ _).alloc (Nat.le_refl _) _).drew⟩
    · have a1 : max f f' = f' := by omega
      have a2 : min t t' = t' := by omega
      rw [a1, a2]
      clear a1 a2
      go_enter Try.func21, Try.ntmps21
      go_wp2
      go_region
      go_wp2
      go_ret2
      exact ⟨rfl, ((Below.refl _ _).alloc (Nat.le_refl _) _).drew⟩

end Go.Proofs.Ytkdfecmbhijgnaa
