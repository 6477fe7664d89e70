/-
  mill.Check accepts runs that are each in order and no two of which share an hour of a machine; for at most 60 runs.
-/
import Derived.Test.YtkdfecmbhijgnaaG
namespace Go.Proofs.Ytkdfecmbhijgnaa
open Go.RowKit

theorem box5 {w w1 : World} {x0 x1 x2 x3 x4 : Value} {T : TypeId} (h : Below (w.alloc (.cells #[x0, x1, x2, x3, x4] T)).heap.size (w.alloc (.cells #[x0, x1, x2, x3, x4] T)) w1) :
    w1.cell? ⟨w.heap.size, 0, none⟩ = some x0 ∧ w1.cell? ⟨w.heap.size, 1, none⟩ = some x1 ∧ w1.cell? ⟨w.heap.size, 2, none⟩ = some x2 ∧ Below w.heap.size w w1 ∧ w.heap.size < w1.heap.size :=
  ⟨(h.cell (p := ⟨w.heap.size, 0, none⟩) (by simp)).trans (by simp), (h.cell (p := ⟨w.heap.size, 1, none⟩) (by simp)).trans (by simp),
   (h.cell (p := ⟨w.heap.size, 2, none⟩) (by simp)).trans (by simp), laid_below h, by have := h.size; simp at this; omega⟩

set_option maxHeartbeats 1000000 in
theorem Check_any (rs : List Run) (b cap : Nat) (w : World) (hn : rs.length ≤ 60) (hc : rs.length ≤ cap) (hcap : cap ≤ 9223372036854775807) (hb : b < w.heap.size) (hr : RunsAt w b rs)
    (hok : ∀ i, (h : i < rs.length) → rs[i].ok) (hap : ∀ i j, (h : i < rs.length) → (h2 : j < i) → rs[i].apart (rs[j]'(by omega))) :
    Calls Try.prog 8 #[.slice (some ⟨b, 0, none⟩) rs.length cap] w fun e w' => e = .returned (.int .i64 0) ∧ Below w.heap.size w w' := by
  have HR := Lib.hid hr
  have HO := Lib.hid hok
  have HA := Lib.hid hap
  clear hr hok hap
  go_enter Try.func8, Try.ntmps8
  go_wp2
  go_loopw [14] (fun i wr => ∃ k : Nat, k ≤ rs.length ∧ i = .int .i64 k ∧ Below w.heap.size w wr) (fun i _ => rs.length - (intOf i).toNat)
  case atStart => exact ⟨0, Nat.zero_le _, rfl, Below.refl _ _⟩
  case round =>
    obtain ⟨k, hk, rfl, hbw⟩ := hrel
    by_cases hlt : k < rs.length
    · obtain ⟨wo, rfl⟩ : ∃ wo : World, wo = wr := ⟨_, rfl⟩
      obtain ⟨c0, c1, c2, c3, c4⟩ := HR.out.kept hb hbw k hlt
      have ho := HO.out k hlt
      have ha := fun j (hj : j < k) => HA.out k j hlt hj
      generalize rs[k] = r at *
      obtain ⟨m, f, t, c, d⟩ := r
      have HOK := Lib.hid ho
      have HAK := Lib.hid ha
      clear ho ha
      have HS := Lib.hid (fun w1 => box5 (w := wo) (w1 := w1) (x0 := .int .i64 m) (x1 := .int .i64 f) (x2 := .int .i64 t) (x3 := .int .i64 c) (x4 := .int .i64 d) (T := 26))
      go_wp2_with (first | (go_at_call 20; refine (isValid_yes m f t c d HOK.out _).mono ?_; rintro e w1 ⟨rfl, hb1⟩; obtain ⟨x0, x1, x2, hB1, hz1⟩ := HS.out w1 hb1; clear hb1 HS c0 c1 c2 c3 c4))
      have HW1 := Lib.hid (hbw.trans (hB1.mono hbw.size))
      have X0 := Lib.hid x0
      have X1 := Lib.hid x1
      have X2 := Lib.hid x2
      clear x0 x1 x2 hB1 hbw
      go_loopw [27] (fun i wi => ∃ j : Nat, j ≤ k ∧ i = .int .i64 j ∧ Below w1.heap.size w1 wi) (fun i _ => k - (intOf i).toNat)
      case atStart => exact ⟨0, Nat.zero_le _, rfl, Below.refl _ _⟩
      case round =>
        obtain ⟨j, hj, rfl, hbi⟩ := hrel
        obtain ⟨wi, rfl⟩ : ∃ wi : World, wi = wr := ⟨_, rfl⟩
        have hall := HW1.out.trans (hbi.mono HW1.out.size)
        by_cases hjk : j < k
        · obtain ⟨c0, c1, c2, c3, c4⟩ := HR.out.kept hb hall j (by omega)
          have ha := HAK.out j hjk
          generalize rs[j] = y at *
          obtain ⟨m', f', t', c', d'⟩ := y
          have x0 := (hbi.cell (p := ⟨wo.heap.size, 0, none⟩) hz1).trans X0.out
          have x1 := (hbi.cell (p := ⟨wo.heap.size, 1, none⟩) hz1).trans X1.out
          have x2 := (hbi.cell (p := ⟨wo.heap.size, 2, none⟩) hz1).trans X2.out
          have HB := Lib.hid (fun w2 (h : Below (wi.alloc (.cells #[.int .i64 m', .int .i64 f', .int .i64 t', .int .i64 c', .int .i64 d'] 26)).heap.size (wi.alloc (.cells #[.int .i64 m', .int .i64 f', .int .i64 t', .int .i64 c', .int .i64 d'] 26)) w2) => hbi.trans ((laid_below h).mono hbi.size))
          have hbz := hbi.size
          clear hbi hall
          have hsz : wo.heap.size < wi.heap.size := Nat.lt_of_lt_of_le hz1 hbz
          by_cases hm : m' = m
          · subst hm
            have HA := Lib.hid (ha rfl)
            clear ha
            have hlt2 : min t' t < max f' f := HA.out
            go_wp2_with (first | (go_at_call 21; refine (hours_yes _ _ _ _ _ _ _ _).mono ?_; rintro e w2 ⟨rfl, hb2⟩; have hB2 := HB.out w2 hb2; clear hb2))
            go_roundw
            case rel => exact ⟨j + 1, by omega, by go_num, hB2⟩
            case measure => simp [intOf]; omega
          · have HM := Lib.hid hm
            clear ha hm
            go_wp2_with (first | (go_at_call 21; refine (hours_no _ _ _ _ _ _ _ _ HM.out _).mono ?_; rintro e w2 ⟨rfl, hb2⟩; have hB2 := HB.out w2 hb2; clear hb2))
            go_roundw
            case rel => exact ⟨j + 1, by omega, by go_num, hB2⟩
            case measure => simp [intOf]; omega
        · go_wp2
          go_roundw
          case rel => exact ⟨k + 1, by omega, by go_num, hall⟩
          case measure => simp [intOf]; omega
    · go_wp2
      go_ret
      exact ⟨rfl, hbw⟩

end Go.Proofs.Ytkdfecmbhijgnaa
