/-
  mill.culprits gathers the causes that all wrong lots share, where there is no right lot; for at most 40 lots.
-/
import Derived.Test.YtkdfecmbhijgnaaV
namespace Go.Proofs.Ytkdfecmbhijgnaa
open Go.RowKit Go.Maps Go.Sort

set_option maxHeartbeats 400000 in
theorem all_nil (s : Value) (w : World) : Calls Try.prog 42 #[s, .slice none 0 0] w fun e w' => e = .returned (.tuple #[.slice none 0 0, .int .i64 0]) ∧ w = w' := by
  go_enter Try.func42, Try.ntmps42
  go_wp2
  refine wp_loop_rounds 1 ?_
  rw [rounds_succ]
  go_wp2
  go_ret2
  exact ⟨rfl, rfl⟩

/-- in all of them -/
def inAll (n : Nat) (Ks : Nat → List Key) (x : Key) : Bool := (List.range n).all fun i => decide (x ∈ Ks i)

theorem inAll_yes {n : Nat} {Ks : Nat → List Key} {x : Key} (h : inAll n Ks x = true) : ∀ i, i < n → x ∈ Ks i := fun i hi => by
  unfold inAll at h
  rw [List.all_eq_true] at h
  exact of_decide_eq_true (h i (List.mem_range.2 hi))

theorem inAll_mk {n : Nat} {Ks : Nat → List Key} {x : Key} (h : ∀ i, i < n → x ∈ Ks i) : inAll n Ks x = true := by
  unfold inAll
  rw [List.all_eq_true]
  intro i hi
  exact decide_eq_true (h i (List.mem_range.1 hi))

theorem inAll_no : ∀ {n : Nat} {Ks : Nat → List Key} {x : Key}, inAll n Ks x = false → ∃ j, j < n ∧ (∀ i, i < j → x ∈ Ks i) ∧ x ∉ Ks j := by
  intro n Ks x
  induction n with
  | zero => intro h; simp [inAll] at h
  | succ n ih =>
    intro h
    cases hc : inAll n Ks x with
    | false =>
      obtain ⟨j, h1, h2, h3⟩ := ih hc
      exact ⟨j, by omega, h2, h3⟩
    | true =>
      refine ⟨n, by omega, inAll_yes hc, fun hm => ?_⟩
      have : inAll (n + 1) Ks x = true := inAll_mk fun i hi => by
        by_cases e : i = n
        · subst e; exact hm
        · exact inAll_yes hc i (by omega)
      rw [this] at h
      cases h

def CulpritsPost (w : World) (n : Nat) (Ks : Nat → List Key) (e : Ending) (w' : World) : Prop := ∃ B outs, e = .returned (.tuple #[.map (some B), .int .i64 0]) ∧ SetAt w' B outs ∧ outs.length ≤ 1000 ∧ (∀ x, x ∈ outs ↔ ∀ i, i < n → x ∈ Ks i) ∧ Below w.heap.size w w'

set_option maxRecDepth 100000 in
set_option maxHeartbeats 1000000 in
theorem culprits_any (rs : List Run) (b cap bl capl : Nat) (ls : List Lot) (Ks : Nat → List Key) (w : World) (hn : rs.length ≤ 60) (hc : rs.length ≤ cap) (hcap : cap ≤ 9223372036854775807) (hb : b < w.heap.size) (hr : RunsAt w b rs)
    (hok : ∀ i, (h : i < rs.length) → rs[i].ok) (hap : ∀ i j, (h : i < rs.length) → (h2 : j < i) → rs[i].apart (rs[j]'(by omega))) (hln : ls.length ≤ 40) (hl1 : 1 ≤ ls.length) (hbl : bl < w.heap.size) (hls : LotsAt w bl ls) (hlo : ∀ i, (h : i < ls.length) → ls[i].ok)
    (hT : ∀ i, (h : i < ls.length) → (puts rs ls[i].m ls[i].f ls[i].t).length ≤ 1000) (hK : ∀ i, (h : i < ls.length) → Ks i = puts rs ls[i].m ls[i].f ls[i].t) :
    Calls Try.prog 33 #[.slice (some ⟨b, 0, none⟩) rs.length cap, .slice (some ⟨bl, 0, none⟩) ls.length capl, .slice none 0 0] w (CulpritsPost w ls.length Ks) := by
  have c1 := fun W h1 h2 => Check_any rs b cap W hn hc hcap h1 h2 hok hap
  have c2 := fun W h1 h2 h3 h4 => (all_any rs b cap bl capl ls W hn hc hcap h1 h2 hok hln h3 h4 hlo hT).mono fun e w' h => all_some hl1 hK h
  have HWF := Lib.hid (fun i (hi : i < ls.length) => (show ∀ y ∈ Ks i, y.wf by rw [hK i hi]; exact puts_wf hok (hlo i hi)))
  have HKL := Lib.hid (fun i (hi : i < ls.length) => (show (Ks i).length ≤ 1000 by rw [hK i hi]; exact hT i hi))
  have HR := Lib.hid hr
  have HL := Lib.hid hls
  have HK := Lib.hid hK
  clear hr hls hok hap hlo hT hK
  have hmm := @run_makeMap Try.prog
  have hlz : (((ls.length : Nat) : Int) == 0) = false := by rw [beq_eq_false_iff_ne]; omega
  have h00 : 0 ≤ 40 := by omega
  go_enter Try.func33, Try.ntmps33
  go_wp2_with (first
    | (go_at_call 8; refine (c1 _ ?_ ?_).mono ?_; exact hb; exact HR.out; rintro e w1 ⟨rfl, hb1⟩; have hz1 := hb1.size)
    | (go_at_call 41; refine (areMany_no _ (some ⟨bl, 0, none⟩) none ls.length 0 capl 0 _ ?_ ?_ hln h00).mono ?_; simp; simp; rintro e w2 ⟨rfl, rfl⟩)
    | (go_at_call_of 42 bl; refine (c2 _ ?_ ?_ ?_ ?_).mono ?_; (simp; omega); exact HR.out.kept hb (hb1.alloc hb1.size _); (simp; omega); exact HL.out.kept hbl (hb1.alloc hb1.size _); rintro e w3 ⟨g, capv, Bs, rfl, hg, hcells, hsets, hb3⟩; have HCELLS := Lib.hid hcells; have HSETS := Lib.hid hsets; have hcell0 := hcells 0 (by omega); have hset0 := hsets 0 (by omega); clear hcells hsets)
    | (go_at_call 42; refine (all_nil _ _).mono ?_; rintro e w4 ⟨rfl, rfl⟩)
    | (at_range; refine wpList_range_own _ rfl _ 47 rfl 35 4 mlaw Try.underlying47 rB (Bs 0) (Ks 0).length (setOf yes ((Ks 0).map kl)) rfl (World.ownsMap.alloc hset0 _) ?_; intro w0 hrg0 hg0 hs0))
  go_frame
  have hmf : ∀ (fn : Fn) (first cap : Array Value) (w : World), (Instr.makeFunc fn first cap).run Try.prog w = .ok (.func fn first cap) w := fun _ _ _ _ => rfl
  have hszD : Maps.size (setOf yes ((Ks 0).map kl)) ≤ 1000 := Nat.le_trans hset0.size_le (HKL.out 0 (by omega))
  have HW0 := Lib.hid (HWF.out 0 (by omega))
  have hsM : SetAt (w3.alloc (.map #[] 0)) w3.heap.size [] := World.ownsMap_made _ _ _ _
  have hw3 : Below w3.heap.size w3 w0 := ((Below.refl _ _).alloc (Nat.le_refl _) _).grown hg0 (by simp) (fun j hj => by cases hj)
  have hs3 : SetAt w0 w3.heap.size [] := World.ownsMap.kept hsM hg0 (by simp)
  have hB0 : Bs 0 < w3.heap.size := hset0.lt
  have HZ := Lib.hid (hz1)
  have HB3 := Lib.hid (hb1.trans (((Below.refl w1.heap.size w1).alloc (Nat.le_refl _) (.cells #[.slice (some ⟨bl, 0, none⟩) ls.length capl, .slice none 0 0] 70) |>.trans (hb3.mono (by simp))).mono hz1))
  rw [World.size_alloc] at hrg0
  clear hcell0 hset0 hs0 hg0 hsM hb1 hb3 hz1
  have HHAS := Lib.hid (fun (x : Key) (hx : x.wf) => has_set hx HW0.out)
  generalize setOf yes ((Ks 0).map kl) = D at *
  simp only [World.size_alloc]
  go_loopw [11] (fun _ wr => ∃ (left : Lit → Bool) (cnt : Nat) (L : List Key), wr.ranges Try.prog 35 rB (Bs 0) (w3.heap.size + 1) (Ks 0).length D left cnt ∧ L.length + cnt ≤ Maps.size D ∧
      SetAt wr w3.heap.size (L.filter (inAll ls.length Ks)) ∧ Coll D left L ∧ Below w3.heap.size w3 wr) (fun _ wr => wr.rangeLeft (Bs 0) (w3.heap.size + 1))
  case atStart => exact ⟨_, _, [], hrg0, by simp, hs3, Coll.start D, hw3⟩
  case round =>
    obtain ⟨left, cnt, L, hrg, hcs, hset, hC, hnx⟩ := hrel
    clear hrg0 hs3 hw3
    have hfl : (L.filter (inAll ls.length Ks)).length ≤ L.length := List.length_filter_le _ _
    go_wp2_with (first
      | (at_next; refine wpList_next_ranges _ rfl _ rfl 35 mlaw rB encK boolOf (fun key kl hk => by obtain ⟨x, hx, _⟩ := keyOf_inv hk; exact ⟨x, hx⟩) (fun v y hv => rB_inv hv) (Bs 0) (w3.heap.size + 1) (Ks 0).length _ _ _ rfl hrg ?_ ?_))
    · intro hc0 hl0
      have HC := Lib.hid hC
      have HSE := Lib.hid hset
      have HNX := Lib.hid hnx
      have HL0 := Lib.hid hl0
      clear hC hset hnx hl0 hrg
      go_wp2
      go_ret2
      refine ⟨w3.heap.size, L.filter (inAll ls.length Ks), rfl, HSE.out, by omega, fun x => ?_, HB3.out.trans (HNX.out.mono HB3.out.size)⟩
      rw [List.mem_filter]
      constructor
      · exact fun h => inAll_yes h.2
      · intro h
        have h0 := h 0 (by omega)
        have hw := HW0.out x h0
        exact ⟨(HC.out.mem x hw).2 ⟨(HHAS.out x hw).2 h0, HL0.out _⟩, inAll_mk h⟩
    · intro x c klit yd yp w5 cnt5 hkey hlk hv hat hrg5 hlt hg5 hs5 hen
      obtain ⟨x', ex, rfl, hxw⟩ := keyOf_inv hkey
      obtain rfl : x = x' := by
        obtain ⟨x1, x2, x3⟩ := x
        obtain ⟨y1, y2, y3⟩ := x'
        simp [encK] at ex
        obtain ⟨rfl, rfl, rfl⟩ := ex
        rfl
      have HX := Lib.hid (hC.step hxw hlk (has_true_of_atKey hat))
      have hB5 : Below w3.heap.size w3 w5 := hnx.grown hg5 hnx.size (fun j hj => by cases hj; omega)
      have hset5 : SetAt w5 w3.heap.size (L.filter (inAll ls.length Ks)) := World.ownsMap.kept hset hg5 (by simp)
      have hz5 := hset5.lt
      have HA := Lib.hid hat
      have HLK := Lib.hid hlk
      have HV := Lib.hid hv
      have HXW := Lib.hid hxw
      clear hs5 hat hkey hv hlk ex hset hnx hC hxw
      have HGO := Lib.hid (fun (W : World) (bx : Nat) (hB : Below w3.heap.size w3 W) (hk : KeyBox W bx x) (hin : inAll ls.length Ks x = true) =>
        containsIn ls.length g bx Bs Ks x W (by omega) HXW.out hk (fun i hi => (hB.cell (p := ⟨g, i, none⟩) hg).trans (HCELLS.out i hi)) (fun i hi => (HSETS.out i hi).below hB) HWF.out capv (inAll_yes hin))
      have HGN := Lib.hid (fun (W : World) (bx : Nat) (hB : Below w3.heap.size w3 W) (hk : KeyBox W bx x) (hin : inAll ls.length Ks x = false) =>
        let ⟨j, h1, h2, h3⟩ := inAll_no hin
        containsOut ls.length g bx Bs Ks x W (by omega) HXW.out hk (fun i hi => (hB.cell (p := ⟨g, i, none⟩) hg).trans (HCELLS.out i hi)) (fun i hi => (HSETS.out i hi).below hB) HWF.out capv j h1 h2 h3)
      cases hin : inAll ls.length Ks x with
      | true =>
        have HIN := Lib.hid hin
        have HF := Lib.hid (show (L ++ [x]).filter (inAll ls.length Ks) = L.filter (inAll ls.length Ks) ++ [x] by rw [List.filter_append]; simp [hin])
        clear hin
        obtain ⟨k, m, n⟩ := x
        simp only [encK] at hen ⊢
        go_wp2_with (first
          | (go_at_call_of 45 g; refine (HGO.out _ w5.heap.size ?_ ?_ HIN.out).mono ?_; exact hB5.alloc hB5.size _; (refine ⟨?_, ?_, ?_⟩ <;> simp); rintro e w6 ⟨rfl, rfl⟩)
          | (go_at_call 45; refine (containsNil _ _).mono ?_; rintro e w7 ⟨rfl, rfl⟩)
          | (at_mapUpdate; refine wpList_store_key rfl _ _ _ rfl w3.heap.size _ rfl rfl (World.ownsMap.alloc hset5 _) ?_ _ _ _ rfl HXW.out ?_; omega; intro w8 hset8 hg8; go_frame))
        have hrg8 := (World.ranges.alloc hrg5 (.cells #[.int .i64 k, .int .i64 m, .int .i64 n] 35)).kept hg8 (by simp; omega) (by simp)
        go_roundw
        case rel => exact ⟨_, cnt5, L ++ [⟨k, m, n⟩], hrg8, by simp; omega, by rw [HF.out]; exact hset8, HX.out, (hB5.alloc hB5.size _).grown hg8 (by simp; omega) (fun j hj => by cases hj; exact Nat.le_refl _)⟩
        case measure => rw [hrg8.left_eq, hrg.left_eq]; exact hlt
      | false =>
        have HIN := Lib.hid hin
        have HF := Lib.hid (show (L ++ [x]).filter (inAll ls.length Ks) = L.filter (inAll ls.length Ks) by rw [List.filter_append]; simp [hin])
        clear hin
        obtain ⟨k, m, n⟩ := x
        simp only [encK] at hen ⊢
        go_wp2_with (first
          | (go_at_call_of 45 g; refine (HGN.out _ w5.heap.size ?_ ?_ HIN.out).mono ?_; exact hB5.alloc hB5.size _; (refine ⟨?_, ?_, ?_⟩ <;> simp); rintro e w6 ⟨rfl, rfl⟩))
        have hrg8 := World.ranges.alloc hrg5 (.cells #[.int .i64 k, .int .i64 m, .int .i64 n] 35)
        go_roundw
        case rel => exact ⟨_, cnt5, L ++ [⟨k, m, n⟩], hrg8, by simp; omega, by rw [HF.out]; exact SetAt.below hset5 ((Below.refl _ _).alloc (Nat.le_refl _) _), HX.out, hB5.alloc hB5.size _⟩
        case measure => rw [hrg8.left_eq, hrg.left_eq]; exact hlt

end Go.Proofs.Ytkdfecmbhijgnaa
