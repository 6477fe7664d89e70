/-
  lot.Chance returns the chance in lowest terms, for a lot of 1 to 50 pieces, at most as many bad ones, and a plan within the lot.
-/
import Derived.Test.YtkdfecmbhijgnaaD
namespace Go.Proofs.Ytkdfecmbhijgnaa
open Go.RowKit

theorem gcd_step (a b : Nat) (_h : 0 < b) : Nat.gcd b (a % b) = Nat.gcd a b := by
  rw [Nat.gcd_comm a b, Nat.gcd_rec b a, Nat.gcd_comm]

set_option maxHeartbeats 400000 in
theorem gcd_any (a b : Nat) (ha : a ≤ 1125899906842624) (hb : b ≤ 1125899906842624) (w : World) :
    Calls Try.prog 16 #[.int .i64 a, .int .i64 b] w fun e w' => e = .returned (.int .i64 (Nat.gcd a b)) ∧ Below w.heap.size w w' := by
  go_enter Try.func16, Try.ntmps16
  go_wp2
  go_loopw [0, 1] (fun u v wr => ∃ x y : Nat, x ≤ 1125899906842624 ∧ y ≤ 1125899906842624 ∧ u = .int .i64 x ∧ v = .int .i64 y ∧ Hid (Nat.gcd x y = Nat.gcd a b) ∧ Below w.heap.size w wr) (fun _ v _ => (intOf v).toNat)
  case atStart => exact ⟨a, b, ha, hb, rfl, rfl, Lib.hid rfl, Below.refl _ _⟩
  case round =>
    obtain ⟨x, y, hx, hy, rfl, rfl, hg, hbw⟩ := hrel
    by_cases h0 : y = 0
    · subst h0
      go_wp2
      go_ret
      exact ⟨ret_int (by rw [← hg.out, Nat.gcd_zero_right]), hbw⟩
    · have h1 : ((y : Int) != 0) = true := by simpa using h0
      have h2 : ¬ (y : Int) = 0 := by omega
      have h3 : 1 ≤ (y : Int) := by omega
      have hm : (x : Int) % (y : Int) = ((x % y : Nat) : Int) := rfl
      have HM := Lib.hid hm
      clear hm
      go_wp2
      go_region
      go_wp2
      go_roundw
      case rel => exact ⟨y, x % y, hy, Nat.le_trans (Nat.mod_le _ _) hx, rfl, by first | rfl | (rw [HM.out]), Lib.hid (by rw [gcd_step x y (by omega)]; exact hg.out), hbw.drew⟩
      case measure => simp [intOf]; have := Nat.mod_lt x (show 0 < y by omega); omega


theorem wrap_div {n g : Nat} (h : n ≤ 1125899906842624) : wrap64 ((n : Int) / (g : Int)) = ((n / g : Nat) : Int) := by
  rw [← Int.natCast_ediv]
  have h2 := Nat.div_le_self n g
  generalize n / g = q at *
  exact IntWalk.wrap64_in _ (by omega)

theorem set2 {W : World} {B : Nat} {x y u v : Value} (e0 : W.cell? ⟨B, 0, none⟩ = some u) (e1 : W.cell? ⟨B, 1, none⟩ = some v) :
    ((W.setCell ⟨B, 0, none⟩ x).setCell ⟨B, 1, none⟩ y).cell? ⟨B, 0, none⟩ = some x ∧ ((W.setCell ⟨B, 0, none⟩ x).setCell ⟨B, 1, none⟩ y).cell? ⟨B, 1, none⟩ = some y := by
  have n1 : (⟨B, 0, none⟩ : Addr) ≠ ⟨B, 1, none⟩ := by simp
  have a0 : (W.setCell ⟨B, 0, none⟩ x).cell? ⟨B, 0, none⟩ = some x := World.cell?_setCell_same _ _ _ e0
  have a1 : (W.setCell ⟨B, 0, none⟩ x).cell? ⟨B, 1, none⟩ = some v := (World.cell?_setCell_other _ _ _ _ n1).trans e1
  exact ⟨(World.cell?_setCell_other _ _ _ _ (Ne.symm n1)).trans a0, World.cell?_setCell_same _ _ _ a1⟩

/-- the two boxes of Chance: the plan, and the result; below them nothing has turned -/
structure Fr (w : World) (s a : Int) (wr : World) : Prop where
  c0 : wr.cell? ⟨w.heap.size, 0, none⟩ = some (.int .i64 s)
  c1 : wr.cell? ⟨w.heap.size, 1, none⟩ = some (.int .i64 a)
  d0 : wr.cell? ⟨w.heap.size + 1, 0, none⟩ = some (.int .i64 0)
  d1 : wr.cell? ⟨w.heap.size + 1, 1, none⟩ = some (.int .i64 0)
  f0 : wr.frozen? ⟨w.heap.size + 1, 0, none⟩ = false
  f1 : wr.frozen? ⟨w.heap.size + 1, 1, none⟩ = false
  below : Below w.heap.size w wr
  size : w.heap.size + 1 < wr.heap.size

theorem Fr.next {w W W' : World} {s a : Int} (h : Fr w s a W) (hb : Below W.heap.size W W') : Fr w s a W' :=
  have l := h.size
  ⟨(hb.cell (p := ⟨w.heap.size, 0, none⟩) (by show w.heap.size < _; omega)).trans h.c0, (hb.cell (p := ⟨w.heap.size, 1, none⟩) (by show w.heap.size < _; omega)).trans h.c1,
   (hb.cell (p := ⟨w.heap.size + 1, 0, none⟩) l).trans h.d0, (hb.cell (p := ⟨w.heap.size + 1, 1, none⟩) l).trans h.d1,
   (hb.frozen (p := ⟨w.heap.size + 1, 0, none⟩) l).trans h.f0, (hb.frozen (p := ⟨w.heap.size + 1, 1, none⟩) l).trans h.f1,
   h.below.trans (hb.mono h.below.size), Nat.lt_of_lt_of_le l hb.size⟩

theorem Fr.drew {w W : World} {s a : Int} (h : Fr w s a W) : Fr w s a W.drew := ⟨h.c0, h.c1, h.d0, h.d1, h.f0, h.f1, h.below.drew, h.size⟩

theorem Fr.held {w W W' : World} {s a : Int} {x y : Value} (h : W.cell? ⟨w.heap.size, 0, none⟩ = some x ∧ W.cell? ⟨w.heap.size, 1, none⟩ = some y ∧ Fr w s a W) (hb : Below W.heap.size W W') :
    W'.cell? ⟨w.heap.size, 0, none⟩ = some x ∧ W'.cell? ⟨w.heap.size, 1, none⟩ = some y ∧ Fr w s a W' :=
  have l := h.2.2.size
  ⟨(hb.cell (p := ⟨w.heap.size, 0, none⟩) (by show w.heap.size < _; omega)).trans h.1, (hb.cell (p := ⟨w.heap.size, 1, none⟩) (by show w.heap.size < _; omega)).trans h.2.1, h.2.2.next hb⟩

theorem Fr.start (w : World) (s a : Int) : Fr w s a ((w.alloc (.cells #[.int .i64 s, .int .i64 a] 38)).alloc (.cells #[.int .i64 0, .int .i64 0] 40)) :=
  ⟨by simp, by simp, by simp, by simp, by simp, by simp, ((Below.refl _ _).alloc (Nat.le_refl _) _).alloc (by simp) _, by simp⟩

set_option maxHeartbeats 400000 in
theorem Chance_any (N b s a : Nat) (h1 : 1 ≤ N) (hN : N ≤ 50) (hb : b ≤ N) (hs : s ≤ N) (ha : a ≤ s) (w : World) :
    Calls Try.prog 5 #[.int .i64 N, .int .i64 b, .agg #[.int .i64 s, .int .i64 a]] w fun e w' =>
      e = .returned (.tuple #[.agg #[.int .i64 (psum b (N - b) s (a + 1) / Nat.gcd (psum b (N - b) s (a + 1)) (ch N s) : Nat), .int .i64 (ch N s / Nat.gcd (psum b (N - b) s (a + 1)) (ch N s) : Nat)], .int .i64 0]) ∧ Below w.heap.size w w' := by
  have h0 := Fr.start w s a
  go_enter Try.func5, Try.ntmps5
  go_wp2_with (first
    | (go_at_call 11; refine (isSize_any _ ?_ _).mono ?_; omega; rintro e w1 ⟨rfl, hb1⟩; have h2 := h0.next hb1; clear h0 hb1)
    | (go_at_call 12; refine (within1_yes (b : Int) 0 (N : Int) _ _ ?_ ?_ ?_).mono ?_; omega; simp; simp; rintro e w2 ⟨rfl, hb2⟩; have h3 := h2.next (laid_below hb2); clear h2 hb2; have q0 := h3.c0; have q1 := h3.c1)
    | (go_at_call 13; refine (isPlan_any _ _ _ ?_ ?_ _).mono ?_; omega; omega; rintro e w4 ⟨rfl, hb4⟩; have h5 := h3.next hb4; clear h3 hb4 q0 q1))
  have f3 := ix58' (n := N) (N : Int) (by omega) (by omega)
  have f4 := ix56' (n := N) (k := s) (s : Int) (by omega) (by omega) (by omega)
  have q0 := h5.c0
  have q1 := h5.c1
  go_region_held3 (fun w' => w'.cell? ⟨w.heap.size, 0, none⟩ = some (.int .i64 s) ∧ w'.cell? ⟨w.heap.size, 1, none⟩ = some (.int .i64 a) ∧ Fr w s a w')
    (first | assumption | exact ⟨q0, q1, h5.drew⟩ | exact ⟨q0, q1, h5⟩ | (refine Fr.held ?_ hb6; assumption))
    (first | (go_at_call 15; refine (ways_any _).mono ?_; rintro e w6 ⟨rfl, hb6⟩) | (go_at_call 14; refine (passes_any N b s a hN hb hs ha _).mono ?_; rintro e w6 ⟨rfl, hb6⟩))
  clear q0 q1 h5 f3 f4
  have hq : w6.cell? ⟨w.heap.size, 0, none⟩ = some (.int .i64 s) ∧ w6.cell? ⟨w.heap.size, 1, none⟩ = some (.int .i64 a) ∧ Fr w s a w6 := by assumption
  have h6 := hq.2.2
  clear hq
  have hn : psum b (N - b) s (a + 1) ≤ ch N s := by
    have := psum_le (b := b) (g := N - b) (s := s) (k := a + 1) (by omega)
    rwa [show b + (N - b) = N by omega] at this
  have hd := ch_small (n := N) (k := s) (by omega)
  have hp := ch_pos N s hs
  generalize hen : psum b (N - b) s (a + 1) = n at *
  generalize hed : ch N s = d at *
  have HN := Lib.hid hen
  have HD := Lib.hid hed
  clear hen hed
  have hg : 0 < Nat.gcd n d := Nat.gcd_pos_of_pos_right _ (by omega)
  go_wp2_with (go_at_call 16; refine (gcd_any n d ?_ ?_ _).mono ?_; omega; omega; rintro e w7 ⟨rfl, hb7⟩; have h7 := h6.next hb7; clear h6 hb7)
  generalize heg : Nat.gcd n d = g at *
  have HG := Lib.hid heg
  clear heg
  have e0 := h7.d0
  have e1 := h7.d1
  have e2 := h7.f0
  have e3 := h7.f1
  have g1 : 1 ≤ (g : Int) := by omega
  have g2 : ¬ (g : Int) = 0 := by omega
  have z1 : wrap64 ((n : Int) / (g : Int)) = ((n / g : Nat) : Int) := wrap_div (by omega)
  have z2 : wrap64 ((d : Int) / (g : Int)) = ((d / g : Nat) : Int) := wrap_div (by omega)
  have Z1 := Lib.hid z1
  have Z2 := Lib.hid z2
  clear z1 z2
  go_region
  go_wp2
  rw [Z1.out, Z2.out]
  generalize hA : n / g = A
  generalize hB : d / g = B
  obtain ⟨r0, r1⟩ := set2 (x := .int .i64 A) (y := .int .i64 B) e0 e1
  refine bodyPost_ret (v := .tuple #[.agg #[.int .i64 A, .int .i64 B], .int .i64 0]) (by simp [results, Try.results5, go_sem, r0, r1]) rfl ⟨?_, ?_⟩
  · rw [HN.out, HD.out, HG.out, hA, hB]
  · exact ((h7.below.setCell (by simp) _).setCell (by simp) _).drew

end Go.Proofs.Ytkdfecmbhijgnaa
