/-
  mill.Culprits returns these causes in order; the blank of the document's example has its two bounds.
-/
import Derived.Test.YtkdfecmbhijgnaaW
import Derived.Test.YtkdfecmbhijgnaaE
namespace Go.Proofs.Ytkdfecmbhijgnaa
open Go.RowKit Go.Maps Go.Sort

set_option maxHeartbeats 1000000 in
theorem Culprits_any (rs : List Run) (b cap bl capl : Nat) (ls : List Lot) (Ks : Nat → List Key) (ks : List Key) (w : World) (hn : rs.length ≤ 60) (hc : rs.length ≤ cap) (hcap : cap ≤ 9223372036854775807) (hb : b < w.heap.size) (hr : RunsAt w b rs)
    (hok : ∀ i, (h : i < rs.length) → rs[i].ok) (hap : ∀ i j, (h : i < rs.length) → (h2 : j < i) → rs[i].apart (rs[j]'(by omega))) (hln : ls.length ≤ 40) (hl1 : 1 ≤ ls.length) (hbl : bl < w.heap.size) (hls : LotsAt w bl ls) (hlo : ∀ i, (h : i < ls.length) → ls[i].ok)
    (hT : ∀ i, (h : i < ls.length) → (puts rs ls[i].m ls[i].f ls[i].t).length ≤ 1000) (hK : ∀ i, (h : i < ls.length) → Ks i = puts rs ls[i].m ls[i].f ls[i].t)
    (hs : ks.Pairwise ltK) (he : ∀ x, (∀ i, i < ls.length → x ∈ Ks i) ↔ x ∈ ks) (hne : ks ≠ []) :
    Calls Try.prog 19 #[.slice (some ⟨b, 0, none⟩) rs.length cap, .slice (some ⟨bl, 0, none⟩) ls.length capl, .slice none 0 0] w (CausesDone w ks) := by
  have c1 := culprits_any rs b cap bl capl ls Ks w hn hc hcap hb hr hok hap hln hl1 hbl hls hlo hT hK
  have c3 := fun W B (outs : List Key) (h : SetAt W B outs) (hl : outs.length ≤ 1000) (hm : ∀ x, x ∈ outs ↔ ∀ i, i < ls.length → x ∈ Ks i) =>
    sorted_any B outs ks W h (fun y hy => by
      have := (hm y).1 hy 0 (by omega)
      rw [hK 0 (by omega)] at this
      exact puts_wf hok (hlo 0 (by omega)) y this) hs (fun x => (hm x).trans (he x)) hne hl
  clear hr hok hap hls hlo hT hK hs he hne
  go_enter Try.func19, Try.ntmps19
  go_wp2_with (first
    | (go_at_call 33; refine c1.mono ?_; rintro e w1 ⟨B, outs, rfl, hset, hlen, hmem, hb1⟩; have HM := Lib.hid hmem; clear hmem)
    | (go_at_call 10; refine (c3 _ _ _ hset hlen HM.out).mono ?_; rintro e w2 ⟨g, cap', rfl, hg1, hg2, hk, hb2⟩))
  go_ret2
  exact ⟨g, cap', rfl, hg2, hk, hb1.trans (hb2.mono hb1.size)⟩

set_option maxHeartbeats 400000 in
theorem pubSpan_any (x y : Int) (w : World) : Calls Try.prog 18 #[.int .i64 x, .int .i64 y] w fun e w' => e = .returned (.agg #[.int .i64 x, .int .i64 y]) ∧ w' = w.alloc (.cells #[.int .i64 x, .int .i64 y] 62) := by
  go_enter Try.func18, Try.ntmps18
  go_wp2
  refine bodyPost_ret (v := .agg #[.int .i64 x, .int .i64 y]) (by simp [results, Try.results18, go_sem]) rfl ⟨rfl, rfl⟩

set_option maxHeartbeats 400000 in
theorem isSpan_any (x y l m : Int) (h : (l ≤ x ∧ x ≤ m) ∧ l ≤ y ∧ y ≤ m) (h2 : x ≤ y) (w : World) :
    Calls Try.prog 40 #[.agg #[.int .i64 x, .int .i64 y], .int .i64 l, .int .i64 m] w fun e w' => e = .returned (.bool true) ∧ Below w.heap.size w w' := by
  have H := Lib.hid h
  clear h
  have HS := Lib.hid (fun w1 => boxed2 (w := w) (w1 := w1) (x := .int .i64 x) (y := .int .i64 y) (T := 62) (o := .cells #[.int .i64 x, .int .i64 y] 3))
  go_enter Try.func40, Try.ntmps40
  go_wp2_with (go_at_call 34; refine (withinM2 x y l m _ _ H.out ?_ ?_ ?_).mono ?_; simp; simp; simp; rintro e w1 ⟨rfl, hb⟩; obtain ⟨k0, k1, hb1⟩ := HS.out w1 hb; clear hb)
  go_ret
  exact ⟨rfl, hb1⟩


/-- the two parts of the document's example -/
def Parts2 (w : World) (b : Nat) : Prop := w.cell? ⟨b, 0, none⟩ = some (.int .i64 130) ∧ w.cell? ⟨b, 1, none⟩ = some (.int .i64 60) ∧ w.cell? ⟨b, 2, none⟩ = some (.int .i64 80) ∧ w.cell? ⟨b, 3, none⟩ = some (.int .i64 300)

theorem Parts2.kept {w W : World} {b : Nat} (h : Parts2 w b) (hb : b < w.heap.size) (hB : Below w.heap.size w W) : Parts2 W b :=
  ⟨(hB.cell (p := ⟨b, _, none⟩) hb).trans h.1, (hB.cell (p := ⟨b, _, none⟩) hb).trans h.2.1, (hB.cell (p := ⟨b, _, none⟩) hb).trans h.2.2.1, (hB.cell (p := ⟨b, _, none⟩) hb).trans h.2.2.2⟩

def sumUpTo : Nat → Int
  | 0 => 0
  | 1 => 1014000
  | _ => 2934000

/-- two boxes of two cells, one behind the other -/
theorem box2b {w w1 : World} {x y : Value} {T : TypeId} {o : Obj} (h : Below ((w.alloc (.cells #[x, y] T)).alloc o).heap.size ((w.alloc (.cells #[x, y] T)).alloc o) w1) :
    w1.cell? ⟨w.heap.size, 0, none⟩ = some x ∧ w1.cell? ⟨w.heap.size, 1, none⟩ = some y ∧ Below w.heap.size w w1 ∧ w.heap.size + 1 < w1.heap.size :=
  have k := boxed2 h
  ⟨k.1, k.2.1, k.2.2, by have := h.size; simp at this; omega⟩

set_option maxHeartbeats 1000000 in
theorem volume_any (b : Nat) (w : World) (hb : b < w.heap.size) (hp : Parts2 w b) :
    Calls Try.prog 32 #[.slice (some ⟨b, 0, none⟩) 2 2, .agg #[.int .i64 79, .int .i64 80]] w fun e w' => e = .returned (.tuple #[.int .i64 2934000, .int .i64 0]) ∧ Below w.heap.size w w' := by
  have HP := Lib.hid hp
  clear hp
  go_enter Try.func32, Try.ntmps32
  go_wp2
  go_loopw [4, 13] (fun n i wr => ∃ k : Nat, k ≤ 2 ∧ i = .int .i64 k ∧ n = .int .i64 (sumUpTo k) ∧ wr.cell? ⟨w.heap.size, 0, none⟩ = some (.int .i64 79) ∧ wr.cell? ⟨w.heap.size, 1, none⟩ = some (.int .i64 80) ∧ Below w.heap.size w wr ∧ w.heap.size < wr.heap.size) (fun _ i _ => 2 - (intOf i).toNat)
  case atStart => exact ⟨0, by omega, rfl, rfl, by simp, by simp, (Below.refl _ _).alloc (Nat.le_refl _) _, by simp⟩
  case round =>
    obtain ⟨k, hk, rfl, rfl, q0, q1, hbw, hsz⟩ := hrel
    obtain ⟨p0, p1, p2, p3⟩ := HP.out.kept hb hbw
    have HS := Lib.hid (fun (W : World) (h : Below wr.heap.size wr W) => (show W.cell? ⟨w.heap.size, 0, none⟩ = some (.int .i64 79) ∧ W.cell? ⟨w.heap.size, 1, none⟩ = some (.int .i64 80) ∧ Below w.heap.size w W ∧ w.heap.size < W.heap.size from
      ⟨(h.cell (p := ⟨w.heap.size, 0, none⟩) hsz).trans q0, (h.cell (p := ⟨w.heap.size, 1, none⟩) hsz).trans q1, hbw.trans (h.mono hbw.size), Nat.lt_of_lt_of_le hsz h.size⟩))
    have hk3 : k = 0 ∨ k = 1 ∨ k = 2 := by omega
    rcases hk3 with rfl | rfl | rfl
    · clear p2 p3 q0 q1
      have HB := Lib.hid (fun w1 => box2b (w := wr) (w1 := w1) (x := .int .i64 130) (y := .int .i64 60) (T := 66) (o := .cells #[.int .i64 130] 3))
      simp only [sumUpTo]
      go_wp2_with (first
        | (go_at_call 34; (with_reducible refine (withinM1 130 1 100000 _ _ ?_ ?_ ?_).mono ?_); omega; simp; simp; rintro e w1 ⟨rfl, hb1⟩; obtain ⟨k0, k1, hB1, hz1⟩ := HB.out w1 hb1; clear hb1)
        | (go_at_call 34; (with_reducible refine (withinM1 60 1 10000000 _ _ ?_ ?_ ?_).mono ?_); omega; simp; simp; rintro e w2 ⟨rfl, hb2⟩; have hB2 := laid_below hb2; clear hb2; have m0 := (hB2.cell (p := ⟨wr.heap.size, 0, none⟩) (Nat.lt_of_succ_lt hz1)).trans k0; have m1 := (hB2.cell (p := ⟨wr.heap.size, 1, none⟩) (Nat.lt_of_succ_lt hz1)).trans k1; clear k0 k1))
      obtain ⟨s0, s1, s2, s3⟩ := HS.out w2 (hB1.trans (hB2.mono hB1.size))
      go_roundw
      case rel => exact ⟨1, by omega, rfl, rfl, s0, s1, s2, s3⟩
      case measure => simp [intOf]
    · clear p0 p1 q0 q1
      have HB := Lib.hid (fun w1 => box2b (w := wr) (w1 := w1) (x := .int .i64 80) (y := .int .i64 300) (T := 66) (o := .cells #[.int .i64 80] 3))
      simp only [sumUpTo]
      go_wp2_with (first
        | (go_at_call 34; (with_reducible refine (withinM1 80 1 100000 _ _ ?_ ?_ ?_).mono ?_); omega; simp; simp; rintro e w1 ⟨rfl, hb1⟩; obtain ⟨k0, k1, hB1, hz1⟩ := HB.out w1 hb1; clear hb1)
        | (go_at_call 34; (with_reducible refine (withinM1 300 1 10000000 _ _ ?_ ?_ ?_).mono ?_); omega; simp; simp; rintro e w2 ⟨rfl, hb2⟩; have hB2 := laid_below hb2; clear hb2; have m0 := (hB2.cell (p := ⟨wr.heap.size, 0, none⟩) (Nat.lt_of_succ_lt hz1)).trans k0; have m1 := (hB2.cell (p := ⟨wr.heap.size, 1, none⟩) (Nat.lt_of_succ_lt hz1)).trans k1; clear k0 k1))
      obtain ⟨s0, s1, s2, s3⟩ := HS.out w2 (hB1.trans (hB2.mono hB1.size))
      go_roundw
      case rel => exact ⟨2, by omega, rfl, rfl, s0, s1, s2, s3⟩
      case measure => simp [intOf]
    · clear p0 p1 p2 p3
      simp only [sumUpTo]
      go_wp2_with (first
        | (go_at_call 40; refine (isSpan_any 79 80 1 100000 ?_ ?_ _).mono ?_; omega; omega; rintro e w1 ⟨rfl, hb1⟩))
      go_ret2
      exact ⟨rfl, hbw.trans (hb1.mono hbw.size)⟩


theorem Fr.spans (w : World) (s a : Int) : Fr w s a ((w.alloc (.cells #[.int .i64 s, .int .i64 a] 62)).alloc (.cells #[.int .i64 0, .int .i64 0] 62)) :=
  ⟨by simp, by simp, by simp, by simp, by simp, by simp, ((Below.refl _ _).alloc (Nat.le_refl _) _).alloc (by simp) _, by simp⟩

set_option maxHeartbeats 1000000 in
theorem Blank_any (b : Nat) (w : World) (hb : b < w.heap.size) (hp : Parts2 w b) :
    Calls Try.prog 17 #[.slice (some ⟨b, 0, none⟩) 2 2, .agg #[.int .i64 79, .int .i64 80]] w fun e w' => e = .returned (.tuple #[.agg #[.int .i64 458, .int .i64 471], .int .i64 0]) ∧ Below w.heap.size w w' := by
  have HP := Lib.hid hp
  clear hp
  have h0 := Fr.spans w 79 80
  go_enter Try.func17, Try.ntmps17
  go_wp2_with (go_at_call 32; refine (volume_any b _ ?_ ?_).mono ?_; (simp; omega); exact HP.out.kept hb h0.below; rintro e w1 ⟨rfl, hb1⟩; have h1 := h0.next hb1; clear h0 hb1; have q0 := h1.c0; have q1 := h1.c1)
  go_region
  go_wp2
  have q2 := h1.d0
  have q3 := h1.d1
  have q4 := h1.f0
  have q5 := h1.f1
  go_region
  go_wp2
  obtain ⟨r0, r1⟩ := set2 (x := .int .i64 458) (y := .int .i64 471) q2 q3
  refine bodyPost_ret (v := .tuple #[.agg #[.int .i64 458, .int .i64 471], .int .i64 0]) (by simp [results, Try.results17, go_sem, r0, r1]) rfl ⟨rfl, ?_⟩
  exact ((h1.below.setCell (by simp) _).setCell (by simp) _).drew.drew

end Go.Proofs.Ytkdfecmbhijgnaa
