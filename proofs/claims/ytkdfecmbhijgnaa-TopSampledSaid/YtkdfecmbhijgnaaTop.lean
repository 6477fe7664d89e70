/-
  acmetop.TopSampled, walked: it returns true at every four and two small numbers, and what was there before the call is as it was.
-/
import Derived.Test.YtkdfecmbhijgnaaI
import Derived.Test.YtkdfecmbhijgnaaP
import Derived.Test.YtkdfecmbhijgnaaZ
import Derived.Test.YtkdfecmbhijgnaaF
import Derived.Deep.CutRange
import Derived.Deep.DeepCutAuto
namespace Go.Proofs.Ytkdfecmbhijgnaa
open Go.RowKit Go.Maps Go.Sort

/-- the boxes of the two arguments, and the row of runs -/
structure Boxes (w : World) (a0 a1 a2 a3 p0 p1 : Nat) (W : World) : Prop where
  c0 : W.cell? ⟨w.heap.size, 0, none⟩ = some (.int .u8 a0)
  c1 : W.cell? ⟨w.heap.size, 1, none⟩ = some (.int .u8 a1)
  c2 : W.cell? ⟨w.heap.size, 2, none⟩ = some (.int .u8 a2)
  d0 : W.cell? ⟨w.heap.size + 1, 0, none⟩ = some (.int .u8 p0)
  d1 : W.cell? ⟨w.heap.size + 1, 1, none⟩ = some (.int .u8 p1)
  below : Below w.heap.size w W
  size : w.heap.size + 1 < W.heap.size

theorem Boxes.next {w W W' : World} {a0 a1 a2 a3 p0 p1 : Nat} (h : Boxes w a0 a1 a2 a3 p0 p1 W) (hb : Below W.heap.size W W') : Boxes w a0 a1 a2 a3 p0 p1 W' :=
  have l := h.size
  ⟨(hb.cell (p := ⟨w.heap.size, 0, none⟩) (by show w.heap.size < _; omega)).trans h.c0, (hb.cell (p := ⟨w.heap.size, 1, none⟩) (by show w.heap.size < _; omega)).trans h.c1, (hb.cell (p := ⟨w.heap.size, 2, none⟩) (by show w.heap.size < _; omega)).trans h.c2,
   (hb.cell (p := ⟨w.heap.size + 1, 0, none⟩) l).trans h.d0, (hb.cell (p := ⟨w.heap.size + 1, 1, none⟩) l).trans h.d1,
   h.below.trans (hb.mono h.below.size), Nat.lt_of_lt_of_le l hb.size⟩

theorem Boxes.start (w : World) (a0 a1 a2 a3 p0 p1 : Nat) : Boxes w a0 a1 a2 a3 p0 p1 ((w.alloc (.cells #[.int .u8 a0, .int .u8 a1, .int .u8 a2, .int .u8 a3] 22)).alloc (.cells #[.int .u8 p0, .int .u8 p1] 23)) :=
  ⟨by simp, by simp, by simp, by simp, by simp, ((Below.refl _ _).alloc (Nat.le_refl _) _).alloc (by simp) _, by simp⟩

theorem Boxes.grown {w W W' : World} {a0 a1 a2 a3 p0 p1 : Nat} {row : Option Nat} (h : Boxes w a0 a1 a2 a3 p0 p1 W) (hg : W.grownBy W' row) (hr : ∀ g, row = some g → w.heap.size + 1 + 1 ≤ g) : Boxes w a0 a1 a2 a3 p0 p1 W' :=
  have n0 : some w.heap.size ≠ row := fun e => by have := hr _ e.symm; omega
  have n1 : some (w.heap.size + 1) ≠ row := fun e => by have := hr _ e.symm; omega
  ⟨hg.cell h.c0 n0, hg.cell h.c1 n0, hg.cell h.c2 n0, hg.cell h.d0 n1, hg.cell h.d1 n1, h.below.grown hg h.below.size (fun k hk => by have := hr k hk; omega), Nat.lt_of_lt_of_le h.size hg.size⟩

/-- the row of runs, the call's own -/
def RowOf (w : World) (rs : List Run) (v : Value) (W : World) : Prop := ∃ g cap : Nat, v = .slice (some ⟨g, 0, none⟩) rs.length cap ∧ W.ownsRow (w.heap.size + 1 + 1) 26 5 (.slice (some ⟨g, 0, none⟩) rs.length cap) rs.length (news rs)

theorem Chance_num {N b s a : Nat} (h1 : 1 ≤ N ∧ N ≤ 30) (hb : b ≤ N) (hs : s ≤ N) (ha : a ≤ s) (w : World) :
    Calls Try.prog 5 #[.int .i64 N, .int .i64 b, .agg #[.int .i64 s, .int .i64 a]] w fun e w' =>
      e = .returned (.tuple #[.agg #[.int .i64 (num N b s a : Nat), .int .i64 (den N b s a : Nat)], .int .i64 0]) ∧ Below w.heap.size w w' :=
  Chance_any N b s a h1.1 (by omega) hb hs ha w

theorem Chances {n bad S A : Nat} (hn : 1 ≤ n ∧ n ≤ 30) (hb : bad ≤ n) (hs : S ≤ n) (ha : A ≤ S) : ∃ x dx y dy : Nat,
    Hid (∀ W, Calls Try.prog 5 #[.int .i64 n, .int .i64 bad, .agg #[.int .i64 S, .int .i64 A]] W fun e w' => e = .returned (.tuple #[.agg #[.int .i64 x, .int .i64 dx], .int .i64 0]) ∧ Below W.heap.size W w') ∧
    Hid (∀ W, Calls Try.prog 5 #[.int .i64 n, .int .i64 (min (n : Int) ((bad : Int) + 1)), .agg #[.int .i64 S, .int .i64 A]] W fun e w' => e = .returned (.tuple #[.agg #[.int .i64 y, .int .i64 dy], .int .i64 0]) ∧ Below W.heap.size W w') ∧
    (1 ≤ dx ∧ dx ≤ 1073741824) ∧ (1 ≤ dy ∧ dy ≤ 1073741824) ∧ x ≤ dx ∧ y ≤ dy ∧ y * dx ≤ x * dy ∧ Hid (bad ≤ A → x = 1 ∧ dx = 1) ∧ Hid (n - S + A + 1 ≤ bad → x = 0 ∧ dx = 1) :=
  ⟨num n bad S A, den n bad S A, num n (min n (bad + 1)) S A, den n (min n (bad + 1)) S A, Lib.hid (Chance_num hn hb hs ha), Lib.hid (by rw [show min (n : Int) ((bad : Int) + 1) = ((min n (bad + 1) : Nat) : Int) by omega]; exact Chance_num hn (by omega) hs ha),
   ⟨den_pos hs, den_small hn.2⟩, ⟨den_pos hs, den_small hn.2⟩, num_le hb ha, num_le (by omega) ha, one_more hb hs ha, Lib.hid (for_sure hb hs ha), Lib.hid (never hb hs)⟩

theorem mul_in {a b : Nat} (ha : a ≤ 1073741824) (hb : b ≤ 1073741824) : wrap64 ((a : Int) * (b : Int)) = (a : Int) * (b : Int) := by
  have h : a * b ≤ 1073741824 * 1073741824 := Nat.mul_le_mul ha hb
  rw [← Int.natCast_mul]
  exact IntWalk.wrap64_in _ (by omega)

/-- a box of two numbers -/
structure Two (B : Nat) (x y : Int) (W : World) : Prop where
  c0 : W.cell? ⟨B, 0, none⟩ = some (.int .i64 x)
  c1 : W.cell? ⟨B, 1, none⟩ = some (.int .i64 y)
  lt : B < W.heap.size

theorem Two.next {B : Nat} {x y : Int} {W W' : World} (h : Two B x y W) (hb : Below W.heap.size W W') : Two B x y W' :=
  ⟨(hb.cell (p := ⟨B, 0, none⟩) h.lt).trans h.c0, (hb.cell (p := ⟨B, 1, none⟩) h.lt).trans h.c1, Nat.lt_of_lt_of_le h.lt hb.size⟩
theorem Two.start (w : World) (x y : Int) (T : TypeId) : Two w.heap.size x y (w.alloc (.cells #[.int .i64 x, .int .i64 y] T)) := ⟨by simp, by simp, by simp⟩

set_option maxRecDepth 100000 in
set_option maxHeartbeats 2000000 in
theorem Top_any (a0 a1 a2 a3 p0 p1 : Nat) (h0 : a0 < 256) (h1 : a1 < 256) (h2 : a2 < 256) (_h3 : a3 < 256) (h4 : p0 < 256) (h5 : p1 < 256) (w : World) :
    Calls Try.prog 3 #[.agg #[.int .u8 a0, .int .u8 a1, .int .u8 a2, .int .u8 a3], .agg #[.int .u8 p0, .int .u8 p1]] w fun e w' => e = .returned (.bool true) ∧ Below w.heap.size w w' := by
  obtain ⟨i0, hi, hz0, hz1, hz2⟩ := info_parts info26
  have hB0 := Boxes.start w a0 a1 a2 a3 p0 p1
  have HB0 := Lib.hid hB0
  clear hB0
  go_enter Try.func3, Try.ntmps3
  go_upto_region 4 with fail
  have e5 : (1 + (a0 : Int) % 30) = ((1 + a0 % 30 : Nat) : Int) := by omega
  have e6 : ((a1 : Int) % (((1 + a0 % 30 : Nat) : Int) + 1)) = ((a1 % (1 + a0 % 30 + 1) : Nat) : Int) := rfl
  simp only [e5]
  simp only [e6]
  have hs : a1 % (1 + a0 % 30 + 1) ≤ 1 + a0 % 30 := by have := Nat.mod_lt a1 (show 0 < 1 + a0 % 30 + 1 by omega); omega
  have hn : 1 ≤ 1 + a0 % 30 ∧ 1 + a0 % 30 ≤ 30 := by omega
  clear e5 e6
  generalize 1 + a0 % 30 = n at *
  generalize a1 % (n + 1) = s at *
  have HN := Lib.hid hn
  have HS := Lib.hid hs
  obtain ⟨hn1, hn2⟩ := hn
  go_upto_if 31 with fail
  go_cut [7] from 30 to 37 (fun s7 wc => RowOf w (if 0 < s then [(⟨1, 0, (s : Int) - 1, 7, 1⟩ : Run)] else []) s7 wc ∧ Boxes w a0 a1 a2 a3 p0 p1 wc)
  case first =>
    have hown := owns_empty (w := ((w.alloc (.cells #[.int .u8 a0, .int .u8 a1, .int .u8 a2, .int .u8 a3] 22)).alloc (.cells #[.int .u8 p0, .int .u8 p1] 23)).alloc (.cells #[] 26)) (base := w.heap.size + 1 + 1) (B := w.heap.size + 1 + 1) (heap_last _ _ _ _) (Nat.le_refl _)
    have hbx := HB0.out.next ((Below.refl _ _).alloc (Nat.le_refl _) (.cells #[] 26))
    have HO := Lib.hid hown
    have HX := Lib.hid hbx
    clear hown hbx
    by_cases hp : 0 < s
    · go_wp2_with (first
        | (at_builtin; refine wpList_append_lies _ rfl _ _ 24 rfl (w.heap.size + 1 + 1) 26 i0 _ 5 40 Try.underlying24 hi hz0 hz1 hz2 rfl (by decide) _ 0 (news []) rfl (HO.out.alloc _) ⟨w.heap.size + 1 + 1 + 1, 0, none⟩ 1 1 (news [⟨1, 0, (s : Int) - 1, 7, 1⟩]) rfl rfl ?c1 (news_one _) (by decide) (by unfold maxLen; omega) (by omega) ?c5 _ rfl ?_))
      case c1 => exact World.news_of_block (cs := #[.int .i64 1, .int .i64 0, .int .i64 ((s : Int) - 1), .int .i64 7, .int .i64 1]) (t := 26) (fr := (0, 0)) (by simpa using heap_alloc_new (((w.alloc (.cells #[.int .u8 a0, .int .u8 a1, .int .u8 a2, .int .u8 a3] 22)).alloc (.cells #[.int .u8 p0, .int .u8 p1] 23)).alloc (.cells #[] 26)) (.cells #[.int .i64 1, .int .i64 0, .int .i64 ((s : Int) - 1), .int .i64 7, .int .i64 1] 26))
      case c5 => simp
      intro g cap w4 hown4 hg4 hat4 hlt4
      go_wp2
      go_meet
      case rel =>
        rw [if_pos hp]
        exact ⟨⟨g, cap, rfl, hown4⟩, (HX.out.next ((Below.refl _ _).alloc (Nat.le_refl _) _)).grown hg4 (by rintro k ⟨⟩; exact Nat.le_refl _)⟩
    · go_wp2
      go_meet
      case rel =>
        rw [if_neg hp]
        exact ⟨⟨_, _, rfl, HO.out⟩, HX.out⟩
  case rest =>
    obtain ⟨⟨g1, cap1, rfl, hown1⟩, hbx1⟩ := hcut
    have hl1 : (if 0 < s then [(⟨1, 0, (s : Int) - 1, 7, 1⟩ : Run)] else []).length ≤ 1 := by split <;> simp
    have hr1 : runsOf n s = (if 0 < s then [(⟨1, 0, (s : Int) - 1, 7, 1⟩ : Run)] else []) ++ (if s < n then [(⟨1, (s : Int), (n : Int) - 1, 8, 1⟩ : Run)] else []) := rfl
    generalize (if 0 < s then [(⟨1, 0, (s : Int) - 1, 7, 1⟩ : Run)] else []) = rs1 at *
    have HR1 := Lib.hid hr1
    have HO1 := Lib.hid hown1
    have HX1 := Lib.hid hbx1
    clear hr1 hown1 hbx1 HB0
    go_upto_if 40 with fail
    go_cut [7] from 38 to 47 (fun s7 wc => RowOf w (runsOf n s) s7 wc ∧ Boxes w a0 a1 a2 a3 p0 p1 wc)
    case first =>
      by_cases hp : s < n
      · go_wp2_with (first
          | (at_builtin; refine wpList_append_lies _ rfl _ _ 24 rfl (w.heap.size + 1 + 1) 26 i0 _ 5 40 Try.underlying24 hi hz0 hz1 hz2 rfl (by decide) _ rs1.length (news rs1) rfl (HO1.out.alloc _) ⟨wc.heap.size, 0, none⟩ 1 1 (news [⟨1, (s : Int), (n : Int) - 1, 8, 1⟩]) rfl rfl ?c1 (news_one _) (by decide) (by unfold maxLen; omega) (by omega) ?c5 _ rfl ?_))
        case c1 => exact World.news_of_block (cs := #[.int .i64 1, .int .i64 s, .int .i64 ((n : Int) - 1), .int .i64 8, .int .i64 1]) (t := 26) (fr := (0, 0)) (heap_alloc_new wc _)
        case c5 => have := HX1.out.size; simp; omega
        intro g cap w4 hown4 hg4 hat4 hlt4
        go_wp2
        go_meet
        case rel =>
          have e : runsOf n s = rs1 ++ [⟨1, (s : Int), (n : Int) - 1, 8, 1⟩] := by rw [HR1.out, if_pos hp]
          have e1 : news rs1 ++ news [⟨1, (s : Int), (n : Int) - 1, 8, 1⟩] = news (runsOf n s) := by rw [e]; unfold news; rw [List.flatMap_append]
          have e2 : rs1.length + 1 = (runsOf n s).length := by rw [e]; simp
          rw [e1, e2] at hown4
          rw [e2]
          exact ⟨⟨g, cap, rfl, hown4⟩, (HX1.out.next ((Below.refl _ _).alloc (Nat.le_refl _) _)).grown hg4 (by rintro k ⟨⟩; exact (owns_runs HO1.out).2.2.2.1)⟩
      · go_wp2
        go_meet
        case rel =>
          have e : runsOf n s = rs1 := by rw [HR1.out, if_neg hp, List.append_nil]
          rw [e]
          exact ⟨⟨_, _, rfl, HO1.out⟩, HX1.out⟩
    case rest =>
      obtain ⟨⟨g, cap, rfl, hown⟩, hbx⟩ := hcut
      obtain ⟨hr, hc, hcap, hg0, hg⟩ := owns_runs hown
      have q2 := hbx.c2
      have HR := Lib.hid hr
      have HX := Lib.hid hbx
      have HC := Lib.hid hc
      have HCAP := Lib.hid hcap
      clear hr hbx hown hc hcap HO1 HX1 HR1 hl1
      have hrl := runs_len hn1 hs
      have HRL := Lib.hid hrl
      clear hrl
      go_upto_region 9 with fail
      have e8 : (7 + (a2 : Int) % 3) = 7 + ((a2 % 3 : Nat) : Int) := rfl
      simp only [e8]
      have hc3 : a2 % 3 ≤ 2 := by omega
      clear e8
      generalize a2 % 3 = c3 at *
      have HC3 := Lib.hid hc3
      go_wp2
      go_loopw [9, 10] (fun b h wr => ∃ k : Nat, k ≤ n ∧ b = .int .i64 (cnt c3 s k : Nat) ∧ h = .int .i64 k ∧ Below wc.heap.size wc wr) (fun _ h _ => n - (intOf h).toNat)
      case atStart => exact ⟨0, Nat.zero_le _, by rw [cnt_zero]; rfl, rfl, Below.refl _ _⟩
      case round =>
        obtain ⟨k, hk, rfl, rfl, hbw⟩ := hrel
        obtain ⟨wo, rfl⟩ : ∃ wo : World, wo = wr := ⟨_, rfl⟩
        have hcl := cnt_le c3 s k
        by_cases hkn : k < n
        · generalize hbad : cnt c3 s k = bad at *
          have HBAD := Lib.hid hbad
          clear hbad
          have HBW := Lib.hid hbw
          have hz := hbw.size
          clear hbw
          have HA := Lib.hid (fun (W : World) (h : Below wo.heap.size wo W) => (HR.out.kept hg (HBW.out.trans (h.mono hz))).news)
          go_wp2_with (first
            | (at_builtin; refine wpList_append_lies _ rfl _ _ 24 rfl wo.heap.size 26 i0 _ 5 40 Try.underlying24 hi hz0 hz1 hz2 rfl (by decide) _ 0 (news []) rfl (owns_empty (heap_alloc_new _ _) (Nat.le_refl _)) ⟨g, 0, none⟩ (runsOf n s).length cap (news (runsOf n s)) rfl (news_length _) ?c1 (news_one _) ?c2 ?c3 ?c4 ?c5 _ rfl ?_))
          case c1 => exact HA.out _ ((Below.refl _ _).alloc (Nat.le_refl _) _)
          case c2 => exact HRL.out.1
          case c3 => have := HRL.out; unfold maxLen; omega
          case c4 => have := HRL.out; omega
          case c5 => simp
          intro g' cap' w4 hown4 hg4 hat4 hlt4
          obtain ⟨hr4, hc4, hcap4, hgo, hg4'⟩ := owns_runs (rs := runsOf n s) hown4
          have hb4 : Below wo.heap.size wo w4 := ((Below.refl _ _).alloc (Nat.le_refl _) (.cells #[] 26)).grown hg4 (by simp) (by rintro j ⟨⟩; exact Nat.le_refl _)
          have HR4 := Lib.hid hr4
          have HC4 := Lib.hid hc4
          have HCAP4 := Lib.hid hcap4
          have HB4 := Lib.hid hb4
          clear hr4 hc4 hcap4 hown4 hg4 hat4 hb4
          go_wp2_with (first
            | (go_at_call 4; refine (Causes_runs HN.out HS.out hkn g' cap' _ HC4.out HCAP4.out hg4' HR4.out).mono ?_; rintro e w5 ⟨gk, capk, rfl, hgk, hkk, hb5⟩; have d0 : w5.cell? ⟨gk, 0, none⟩ = some (.int .i64 1) := (hkk 0 (by simp [keys3])).1; have d1 : w5.cell? ⟨gk, 1, none⟩ = some (.int .i64 0) := (hkk 0 (by simp [keys3])).2.1; have d2 : w5.cell? ⟨gk, 2, none⟩ = some (.int .i64 (coilAt s k)) := (hkk 0 (by simp [keys3])).2.2; have hlen : (keys3 (coilAt s k) k).length = 3 := rfl; generalize keys3 (coilAt s k) k = ks at *; clear hkk))
          · have hcc : coilAt s k = 7 + (c3 : Int) := by assumption
            have hcy := cnt_yes hcc
            rw [HBAD.out] at hcy
            go_roundw
            case rel => exact ⟨k + 1, by omega, by rw [hcy]; go_num, by go_num, HBW.out.trans ((HB4.out.trans (hb5.mono HB4.out.size)).mono hz)⟩
            case measure => simp [intOf]; omega
          · have hcc : ¬ coilAt s k = 7 + (c3 : Int) := by assumption
            have hcy := cnt_no hcc hc3
            rw [HBAD.out] at hcy
            go_roundw
            case rel => exact ⟨k + 1, by omega, by rw [hcy], by go_num, HBW.out.trans ((HB4.out.trans (hb5.mono HB4.out.size)).mono hz)⟩
            case measure => simp [intOf]; omega
        · obtain rfl : n = k := by omega
          have hbn := cnt_le c3 s n
          have hrow := cnt_row hc3 hs
          generalize hbad : cnt c3 s n = bad at *
          have HBAD := Lib.hid hbad
          clear hbad
          have hX := HX.out.next hbw
          have f1 := ix36 (k := c3) (by omega) hrow
          clear hrow
          have f2 : 7 + (c3 : Int) - 7 = c3 := by omega
          have d0 := hX.d0
          have d1 := hX.d1
          go_upto_region 20 with fail
          have e9 : ((p0 : Int) % ((n : Int) + 1)) = ((p0 % (n + 1) : Nat) : Int) := rfl
          simp only [e9]
          have hS : p0 % (n + 1) ≤ n := by have := Nat.mod_lt p0 (show 0 < n + 1 by omega); omega
          clear e9
          generalize p0 % (n + 1) = S at *
          have hX2 := hX.next ((Below.refl _ _).alloc (Nat.le_refl _) (.cells #[.int .i64 (S : Nat), .int .i64 0] 38))
          have HX2 := Lib.hid hX
          have d1' := hX2.d1
          have hw1 := hX.size
          clear hX hX2 d0 d1
          go_upto_region 21 with fail
          have e10 : ((p1 : Int) % ((S : Int) + 1)) = ((p1 % (S + 1) : Nat) : Int) := rfl
          simp only [e10]
          have hA : p1 % (S + 1) ≤ S := by have := Nat.mod_lt p1 (show 0 < S + 1 by omega); omega
          clear e10 d1'
          generalize p1 % (S + 1) = A at *
          obtain ⟨x, dx, y, dy, CX, CY, hdx, hdy, hx, hy, hm, HSURE, HNEVER⟩ := Chances HN.out hbn hS hA
          have tP := Two.start wo S A 38
          have HBO := Lib.hid (hbw.alloc hbw.size (.cells #[.int .i64 (S : Nat), .int .i64 (A : Nat)] 38))
          have HM := Lib.hid hm
          clear hbw hm
          go_upto_region 23 with (first
            | (go_at_call 5; (with_reducible refine (CX.out _).mono ?_); rintro e w6 ⟨rfl, hb6⟩; have t6 := tP.next hb6; have tX := Two.start w6 x dx 40; have t7 := t6.next ((Below.refl _ _).alloc (Nat.le_refl _) (.cells #[.int .i64 (x : Nat), .int .i64 (dx : Nat)] 40)); have r0 := t7.c0; have r1 := t7.c1)
            | (go_at_call 5; (with_reducible refine (CY.out _).mono ?_); rintro e w8 ⟨rfl, hb8⟩; clear r0 r1))
          have t9P := (t7.next hb8).next ((Below.refl _ _).alloc (Nat.le_refl _) (.cells #[.int .i64 (y : Nat), .int .i64 (dy : Nat)] 40))
          have t9X := (tX.next hb8).next ((Below.refl _ _).alloc (Nat.le_refl _) (.cells #[.int .i64 (y : Nat), .int .i64 (dy : Nat)] 40))
          have t9Y := Two.start w8 y dy 40
          have hb9 : Below w.heap.size w (w8.alloc (.cells #[.int .i64 (y : Nat), .int .i64 (dy : Nat)] 40)) := by
            have l1 := HX.out.below.trans (HBO.out.mono HX.out.below.size)
            have l2 := l1.trans (hb6.mono l1.size)
            have l3 := (l2.alloc l2.size (.cells #[.int .i64 (x : Nat), .int .i64 (dx : Nat)] 40))
            have l4 := l3.trans (hb8.mono l3.size)
            exact l4.alloc l4.size _
          have HB9 := Lib.hid hb9
          clear hb9 hb8 hb6 t7 t6 tX tP HX2 HBO
          generalize w8.alloc (.cells #[.int .i64 (y : Nat), .int .i64 (dy : Nat)] 40) = w9 at *
          generalize w8.heap.size = By at *
          generalize w6.heap.size = Bx at *
          generalize wo.heap.size = Bp at *
          obtain ⟨pc0, pc1, plt⟩ := t9P
          obtain ⟨xc0, xc1, xlt⟩ := t9X
          obtain ⟨yc0, yc1, ylt⟩ := t9Y
          have g1 : ¬ (dx : Int) < 1 := by omega
          have g2 : ¬ (dy : Int) < 1 := by omega
          have g3 : ¬ (x : Int) < 0 := by omega
          have g4 : ¬ (dx : Int) < (x : Int) := by omega
          have g5 : ¬ (dy : Int) < (y : Int) := by omega
          have b1 : decide ((dx : Int) < 1) = false := decide_eq_false g1
          have b2 : decide ((dy : Int) < 1) = false := decide_eq_false g2
          have b3 : decide ((x : Int) < 0) = false := decide_eq_false g3
          have b4 : decide ((dx : Int) < (x : Int)) = false := decide_eq_false g4
          have b5 : decide ((dy : Int) < (y : Int)) = false := decide_eq_false g5
          clear CX CY HR HX HC HCAP
          go_upto_region 25 with fail
          clear g1 g2 g3 g4 g5 b1 b2 b3 b4 b5
          have z1 : wrap64 ((x : Int) * (dy : Int)) = (x : Int) * (dy : Int) := mul_in (by omega) hdy.2
          have z2 : wrap64 ((y : Int) * (dx : Int)) = (y : Int) * (dx : Int) := mul_in (by omega) hdx.2
          have z3 : ¬ (x : Int) * (dy : Int) < (y : Int) * (dx : Int) := by
            have := HM.out
            rw [← Int.natCast_mul, ← Int.natCast_mul]
            omega
          go_upto_region 27 with fail
          clear z1 z2 z3 yc0 yc1
          by_cases hA1 : bad ≤ A
          · obtain ⟨rfl, rfl⟩ := HSURE.out hA1
            have l1 : (bad : Int) < (n : Int) - (S : Int) + (A : Int) + 1 := by omega
            have l2 : (bad : Int) ≤ (A : Int) := by omega
            by_cases hb0 : bad = 0
            · subst hb0
              clear HSURE HNEVER
              go_wp2_with (first
                | (go_at_call 6; refine (pubLot_any _).mono ?_; rintro e wa ⟨rfl, hba⟩)
                | (go_at_call 7; refine (pubMill_any _).mono ?_; rintro e wb ⟨rfl, hbb⟩))
              go_ret
              exact ⟨rfl, (HB9.out.trans (hba.mono HB9.out.size)).trans (hbb.mono (Nat.le_trans HB9.out.size hba.size))⟩
            · have l3 : ¬ (bad : Int) = 0 := by omega
              have l4 : ((bad : Int) != 0) = true := by simpa using hb0
              clear HSURE HNEVER
              go_wp2_with (first
                | (go_at_call 6; refine (pubLot_any _).mono ?_; rintro e wa ⟨rfl, hba⟩)
                | (go_at_call 7; refine (pubMill_any _).mono ?_; rintro e wb ⟨rfl, hbb⟩))
              go_ret
              exact ⟨rfl, (HB9.out.trans (hba.mono HB9.out.size)).trans (hbb.mono (Nat.le_trans HB9.out.size hba.size))⟩
          · have l2 : ¬ (bad : Int) ≤ (A : Int) := by omega
            have hb0 : ¬ bad = 0 := by omega
            have l3 : ¬ (bad : Int) = 0 := by omega
            have l4 : ((bad : Int) != 0) = true := by simpa using hb0
            by_cases l1 : (bad : Int) < (n : Int) - (S : Int) + (A : Int) + 1
            · clear HSURE HNEVER
              go_wp2_with (first
                | (go_at_call 6; refine (pubLot_any _).mono ?_; rintro e wa ⟨rfl, hba⟩)
                | (go_at_call 7; refine (pubMill_any _).mono ?_; rintro e wb ⟨rfl, hbb⟩))
              go_ret
              exact ⟨rfl, (HB9.out.trans (hba.mono HB9.out.size)).trans (hbb.mono (Nat.le_trans HB9.out.size hba.size))⟩
            · obtain ⟨rfl, rfl⟩ := HNEVER.out (by omega)
              clear HSURE HNEVER
              go_wp2_with (first
                | (go_at_call 6; refine (pubLot_any _).mono ?_; rintro e wa ⟨rfl, hba⟩)
                | (go_at_call 7; refine (pubMill_any _).mono ?_; rintro e wb ⟨rfl, hbb⟩))
              go_ret
              exact ⟨rfl, (HB9.out.trans (hba.mono HB9.out.size)).trans (hbb.mono (Nat.le_trans HB9.out.size hba.size))⟩

end Go.Proofs.Ytkdfecmbhijgnaa
