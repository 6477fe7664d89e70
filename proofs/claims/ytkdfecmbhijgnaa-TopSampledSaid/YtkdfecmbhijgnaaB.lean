/-
  lot.newTriangle and lot.ways fill Pascal's triangle: row n, place k holds ch n k, for n, k below 51.
-/
import Derived.Test.YtkdfecmbhijgnaaA
import Derived.Laws.CopyOwn
import Derived.Test.YtkdfecmbhijgnaaM
namespace Go.Proofs.Ytkdfecmbhijgnaa
open Go.RowKit

/-- a row of 2601 cells that holds these numbers -/
def Rep (cs : Array Value) (g : Nat → Int) : Prop := cs.size = 2601 ∧ ∀ i, i < 2601 → cs[i]? = some (.int .i64 (g i))

/-- the triangle while row n is being filled, up to place k; the rows above are done -/
def pt (n : Nat) (k : Int) (i : Nat) : Int := if i / 51 < n then ch (i / 51) (i % 51) else if i / 51 = n ∧ (i % 51 : Nat) ≤ k then ch n (i % 51) else 0

theorem zero_cells : Try.prog.cellsOf 58 = 2601 := by kernel_rfl

def zeros : Array Value := Array.replicate 2601 (.int .i64 0)
theorem zero58 (w : World) : (zeroValue 58).run Try.prog w = .ok (.agg zeros) w := by kernel_rfl


/-- the block of the triangle holds these numbers; below it nothing has turned -/
def TriG (w wr : World) (g : Nat → Int) : Prop := (∃ cs, wr.heap[w.heap.size]? = some (.cells cs 58 (0, 0)) ∧ Rep cs g) ∧ Below w.heap.size w wr

theorem TriG.cell {w wr : World} {g : Nat → Int} (h : TriG w wr g) {i : Nat} (hi : i < 2601) : wr.cell? ⟨w.heap.size, i, none⟩ = some (.int .i64 (g i)) := by
  obtain ⟨⟨cs, h1, h2, h3⟩, _⟩ := h
  rw [cell_of_row _ _ _ _ _ _ h1]
  exact h3 i hi

theorem TriG.free {w wr : World} {g : Nat → Int} (h : TriG w wr g) (i : Nat) : wr.frozen? ⟨w.heap.size, i, none⟩ = false := by
  obtain ⟨⟨cs, h1, _⟩, _⟩ := h
  exact frozen_of_row _ _ _ _ _ h1

theorem TriG.drew {w wr : World} {g : Nat → Int} (h : TriG w wr g) : TriG w wr.drew g := by
  obtain ⟨⟨cs, h1, h2⟩, hb⟩ := h
  exact ⟨⟨cs, h1, h2⟩, hb.drew⟩

theorem TriG.set {w wr : World} {g g' : Nat → Int} (h : TriG w wr g) (i : Nat) (v : Int) (hg : ∀ j, j < 2601 → g' j = if j = i then v else g j) :
    TriG w (wr.setCell ⟨w.heap.size, i, none⟩ (.int .i64 v)) g' := by
  obtain ⟨⟨cs, h1, h2, h3⟩, hb⟩ := h
  refine ⟨⟨_, heap_setCell_same wr _ i cs 58 _ h1, by simp [h2], fun j hj => ?_⟩, hb.setCell (Nat.le_refl _) _⟩
  rw [hg j hj, Array.getElem?_setIfInBounds]
  by_cases e : i = j
  · subst e; simp [h2, hj]
  · rw [if_neg e, if_neg (fun h => e h.symm)]; exact h3 j hj

theorem TriG.congr {w wr : World} {g g' : Nat → Int} (h : TriG w wr g) (hg : ∀ j, j < 2601 → g' j = g j) : TriG w wr g' := by
  obtain ⟨⟨cs, h1, h2, h3⟩, hb⟩ := h
  exact ⟨⟨cs, h1, h2, fun j hj => by rw [hg j hj]; exact h3 j hj⟩, hb⟩

theorem tri_start (w : World) : TriG w (w.alloc (.cells zeros 58)) (pt 0 (-1)) := by
  refine ⟨⟨zeros, heap_alloc_new _ _, by simp [zeros], fun i hi => ?_⟩, (Below.refl _ _).alloc (Nat.le_refl _) _⟩
  have : pt 0 (-1) i = 0 := by unfold pt; rw [if_neg (by omega), if_neg (by omega)]
  rw [this]
  simp [zeros, hi]

theorem pt_head {n : Nat} (hn : n < 51) {j : Nat} (_hj : j < 2601) : pt n 0 j = if j = n * 51 then 1 else pt n (-1) j := by
  unfold pt
  by_cases e : j = n * 51
  · have h1 : j / 51 = n := by omega
    have h2 : j % 51 = 0 := by omega
    rw [if_pos e, if_neg (by omega), if_pos ⟨h1, by omega⟩, h2]
    cases n <;> rfl
  · rw [if_neg e]
    by_cases h : j / 51 < n
    · rw [if_pos h, if_pos h]
    · rw [if_neg h, if_neg h, if_neg (by omega), if_neg (by omega)]

theorem pt_step {n k : Nat} (_hn : n < 51) (hk : k < n) {j : Nat} (hj : j < 2601) : pt n ((k + 1 : Nat) : Int) j = if j = n * 51 + (k + 1) then (ch n (k + 1) : Int) else pt n k j := by
  unfold pt
  by_cases e : j = n * 51 + (k + 1)
  · have h1 : j / 51 = n := by omega
    have h2 : j % 51 = k + 1 := by omega
    rw [if_pos e, if_neg (by omega), if_pos ⟨h1, by omega⟩, h2]
  · rw [if_neg e]
    by_cases h : j / 51 < n
    · rw [if_pos h, if_pos h]
    · rw [if_neg h, if_neg h]
      by_cases h2 : j / 51 = n ∧ (j % 51 : Nat) ≤ (k : Int)
      · rw [if_pos h2, if_pos ⟨h2.1, by omega⟩]
      · rw [if_neg h2, if_neg (by omega)]

theorem pt_done {n : Nat} {j : Nat} : pt (n + 1) (-1) j = pt n n j := by
  unfold pt
  by_cases h : j / 51 < n
  · rw [if_pos h, if_pos (by omega)]
  · rw [if_neg h]
    by_cases h1 : j / 51 = n
    · rw [if_pos (by omega), h1]
      by_cases h2 : (j % 51 : Nat) ≤ (n : Int)
      · rw [if_pos ⟨rfl, h2⟩]
      · rw [if_neg (fun h => h2 h.2), ch_over n _ (by omega)]; rfl
    · rw [if_neg (by omega), if_neg (by omega), if_neg (by omega)]

theorem pt_above {n : Nat} {k : Int} {i j : Nat} (hi : i < n) (hj : j < 51) : pt n k (i * 51 + j) = ch i j := by
  unfold pt
  rw [show (i * 51 + j) / 51 = i by omega, show (i * 51 + j) % 51 = j by omega, if_pos hi]

/-- the triangle, laid out -/
def triN (n : Nat) : Array Value := (Array.range n).map fun i => .int .i64 (ch (i / 51) (i % 51))
def tri : Array Value := triN 2601
theorem triN_size (n : Nat) : (triN n).size = n := by simp [triN]
theorem triN_get {n i : Nat} (h : i < n) : (triN n)[i]? = some (.int .i64 (ch (i / 51) (i % 51))) := by simp [triN, h]
theorem triN_all (n : Nat) : (triN n).all (·.oneCell') = true := by
  rw [Array.all_eq_true]
  intro i hi
  simp [triN, Value.oneCell']
theorem tri_size : tri.size = 2601 := triN_size 2601
theorem tri_all : tri.all (·.oneCell') = true := triN_all 2601
theorem info58 : (Try.prog.info? 58).map (·.size) = some 2601 := by kernel_rfl

theorem tri_of {cs : Array Value} (h : Rep cs (pt 51 (-1))) : cs = tri := by
  obtain ⟨h1, h2⟩ := h
  apply Array.ext_getElem?
  intro i
  by_cases hi : i < 2601
  · rw [h2 i hi]
    unfold tri
    rw [triN_get hi]
    unfold pt
    rw [if_pos (by omega)]
  · rw [Array.getElem?_eq_none (by omega), Array.getElem?_eq_none (by rw [tri_size]; omega)]

theorem TriG.done {w wr : World} (h : TriG w wr (pt 51 (-1))) : wr.heap[w.heap.size]? = some (.cells tri 58 (0, 0)) := by
  obtain ⟨⟨cs, h1, h2⟩, _⟩ := h
  rw [h1, tri_of h2]

set_option maxHeartbeats 400000 in
theorem newTri_any (w : World) : Calls Try.prog 31 #[] w fun e w' => e = .returned (.agg tri) ∧ Below w.heap.size w w' := by
  have hz := zero58
  go_enter Try.func31, Try.ntmps31
  go_wp2
  go_loopw [3] (fun i wr => ∃ n : Nat, n ≤ 51 ∧ i = .int .i64 n ∧ TriG w wr (pt n (-1))) (fun i _ => 51 - (intOf i).toNat)
  case atStart => exact ⟨0, by omega, rfl, tri_start w⟩
  case round =>
    obtain ⟨n, hn, rfl, ht⟩ := hrel
    by_cases hlt : n < 51
    · have hf := ht.free (n * 51)
      have hc := ht.cell (i := n * 51) (by omega)
      have HT := Lib.hid ht
      clear ht
      obtain ⟨wo, rfl⟩ : ∃ wo : World, wo = wr := ⟨_, rfl⟩
      go_wp2
      have ht2 : TriG w (wo.setCell ⟨w.heap.size, n * 51, none⟩ (.int .i64 1)) (pt n 0) := HT.out.set _ _ fun j hj => pt_head hlt hj
      go_loopw [10] (fun i wr => ∃ k : Nat, k ≤ n ∧ i = .int .i64 k ∧ TriG w wr (pt n k)) (fun i _ => n - (intOf i).toNat)
      case atStart => exact ⟨0, by omega, rfl, ht2⟩
      case round =>
        clear ht2 HT hf hc
        obtain ⟨k, hk, rfl, ht⟩ := hrel
        by_cases hkn : k < n
        · have hr := ht.cell (i := (n - 1) * 51 + k) (by omega)
          rw [pt_above (by omega) (by omega)] at hr
          have ho := ht.cell (i := n * 51 + (k + 1)) (by omega)
          have hf := ht.free (n * 51 + (k + 1))
          have hst := fun v g' hg => ht.set (g' := g') (n * 51 + (k + 1)) v hg
          have hsum := Lib.hid (ch_sum hkn)
          have HT := Lib.hid hst
          clear hst
          by_cases hk1 : k + 1 < n
          · have ht1 : TriG w (wr.setCell ⟨w.heap.size, n * 51 + (k + 1), none⟩ (.int .i64 (ch (n - 1) k))).drew (fun j => if j = n * 51 + (k + 1) then ch (n - 1) k else pt n k j) :=
              (HT.out _ _ fun j hj => rfl).drew
            have hr1 := ht1.cell (i := n * 51 + (k + 1)) (by omega)
            rw [if_pos rfl] at hr1
            have hr2 := ht1.cell (i := (n - 1) * 51 + (k + 1)) (by omega)
            rw [if_neg (by omega), pt_above (by omega) (by omega)] at hr2
            have hf1 := ht1.free (n * 51 + (k + 1))
            have hb1 := ch_small (n := n - 1) (k := k) (by omega)
            have hb2 := ch_small (n := n - 1) (k := k + 1) (by omega)
            have hst := fun v g' hg => ht1.set (g' := g') (n * 51 + (k + 1)) v hg
            have HT1 := Lib.hid hst
            clear hst ht ht1
            go_wp2
            go_region
            go_wp2
            go_region
            go_wp2
            go_roundw
            case rel =>
              refine ⟨k + 1, by omega, by go_num, (HT1.out _ _ fun j hj => ?_).drew⟩
              rw [pt_step hlt hkn hj, hsum.out]
              by_cases e : j = n * 51 + (k + 1)
              · rw [if_pos e, if_pos e]
              · rw [if_neg e, if_neg e, if_neg e]
            case measure => simp [intOf]; omega
          · clear ht
            go_wp2
            go_region
            go_wp2
            go_roundw
            case rel =>
              refine ⟨k + 1, by omega, by go_num, (HT.out _ _ fun j hj => ?_).drew⟩
              rw [pt_step hlt hkn hj, hsum.out, ch_over (n - 1) (k + 1) (by omega)]
              simp
            case measure => simp [intOf]; omega
        · obtain rfl : k = n := by omega
          have ht3 := Lib.hid (ht.congr (fun j _ => pt_done (n := k) (j := j)))
          clear ht
          go_wp2
          go_roundw
          case rel => exact ⟨k + 1, by omega, by go_num, ht3.out⟩
          case measure => simp [intOf]; omega
    · obtain rfl : n = 51 := by omega
      have hd := ht.done
      have hb := ht.2
      clear ht
      go_wp2_with (first | (refine wpList_load_row rfl 58 _ rfl w.heap.size rfl 58 tri (0, 0) _ hd Try.underlying58 rfl ?_ ?_) | (refine wpList_store_row rfl 58 _ _ rfl w.heap.size tri rfl rfl 58 tri hd ?_ rfl tri_all ?_))
      · rw [info58, tri_size]
      · rw [info58, tri_size]
      · rw [setRow_self _ _ _ _ _ hd]
        exact bodyPost_ret (results_cell_row rfl _ _ w.heap.size 58 tri (0, 0) _ rfl hd Try.underlying58 rfl (by rw [info58, tri_size])) rfl ⟨rfl, hb⟩


set_option maxHeartbeats 400000 in
theorem ways_any (w : World) : Calls Try.prog 15 #[] w fun e w' => e = .returned (.agg tri) ∧ Below w.heap.size w w' := by
  have hz := zero58
  go_enter Try.func15, Try.ntmps15
  have start : ∀ w1, Below (w.alloc (.cells zeros 58)).heap.size (w.alloc (.cells zeros 58)) w1 → w1.heap[w.heap.size]? = some (.cells zeros 58 (0, 0)) ∧ Below w.heap.size w w1 := fun w1 hb =>
    ⟨by rw [hb.block _ (by simp)]; exact heap_alloc_new _ _, ((Below.refl _ _).alloc (Nat.le_refl _) _).trans (hb.mono (by simp))⟩
  have HS := Lib.hid start
  clear start
  go_wp2_with (first | (go_at_call 31; refine (newTri_any _).mono ?_; rintro e w1 ⟨rfl, hb⟩; obtain ⟨h0, hb1⟩ := HS.out w1 hb; clear hb) | (refine wpList_store_row rfl 58 _ _ rfl w.heap.size tri rfl rfl 58 zeros h0 ?_ ?_ tri_all ?_))
  · rw [info58, tri_size]
  · rw [tri_size]; exact Array.size_replicate
  · have h2 : (w1.setRow w.heap.size tri).heap[w.heap.size]? = some (.cells tri 58 (0, 0)) := setRow_heap w1 _ _ _ _ _ h0
    exact bodyPost_ret (results_cell_row rfl _ _ w.heap.size 58 tri (0, 0) _ rfl h2 Try.underlying58 rfl (by rw [info58, tri_size])) rfl ⟨rfl, below_setRow hb1 (Nat.le_refl _) _⟩

end Go.Proofs.Ytkdfecmbhijgnaa
