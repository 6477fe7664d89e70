/-
  mill.sorted returns the causes of a map in order, for at most 1000 causes.
-/
import Derived.Test.YtkdfecmbhijgnaaO
namespace Go.Proofs.Ytkdfecmbhijgnaa
open Go.RowKit Go.Maps Go.Sort

def boolOf (n : Int) : Value := .bool (decide (n = 1))

theorem rB_inv {v : Value} {y : DataW Unit × List MemPlace} (h : rB v = some y) : ∃ c, v = boolOf c := by
  unfold rB plainElem at h
  simp only [Try.underlying4] at h
  cases v <;> simp at h
  rename_i b
  cases b
  · exact ⟨0, rfl⟩
  · exact ⟨1, rfl⟩

theorem info35 : (Try.prog.info? 35).map (fun i => (i.zero, i.size, i.bytes)) = some (some (.agg #[.int .i64 0, .int .i64 0, .int .i64 0]), 3, 24) := by kernel_rfl

/-- the causes lie in block g, three cells each -/
def KeysAt (w : World) (g : Nat) (ks : List Key) : Prop := ∀ i, (h : i < ks.length) →
  w.cell? ⟨g, i * 3, none⟩ = some (.int .i64 ks[i].k) ∧ w.cell? ⟨g, i * 3 + 1, none⟩ = some (.int .i64 ks[i].m) ∧ w.cell? ⟨g, i * 3 + 2, none⟩ = some (.int .i64 ks[i].n)

def SortedPost (w : World) (ks : List Key) (e : Ending) (w' : World) : Prop := ∃ g cap, e = .returned (.slice (some ⟨g, 0, none⟩) ks.length cap) ∧ w.heap.size ≤ g ∧ g < w'.heap.size ∧ KeysAt w' g ks ∧ Below w.heap.size w w'

theorem flat_length (L : List Key) : (L.flatMap Key.cells).length = L.length * 3 := by
  induction L with
  | nil => rfl
  | cons x r ih => simp [List.flatMap_cons, Key.cells, ih]; omega

theorem flat_get (L : List Key) : ∀ t, t < L.length * 3 → (L.flatMap Key.cells)[t]? = ((L[t / 3]?).bind fun x => x.cells[t % 3]?) := by
  induction L with
  | nil => intro t ht; simp at ht
  | cons x r ih =>
    intro t ht
    rw [List.flatMap_cons]
    by_cases h : t < 3
    · rw [List.getElem?_append_left (by simpa [Key.cells] using h)]
      rw [show t / 3 = 0 by omega, show t % 3 = t by omega]
      rfl
    · rw [List.getElem?_append_right (by simp [Key.cells]; omega)]
      have e : x.cells.length = 3 := rfl
      rw [e, ih (t - 3) (by simp at ht; omega), show t / 3 = (t - 3) / 3 + 1 by omega, show (t - 3) % 3 = t % 3 by omega]
      rfl

theorem holdsK_row {w : World} {g : Nat} {cur : Array Value} {e : TypeId} {L : List Key} (hb : w.heap[g]? = some (.cells cur e (0, 0))) (h : cur.toList.take (L.length * 3) = L.flatMap Key.cells) : HoldsK Key.cells 3 w g 0 L.toArray := by
  intro j hj
  have hj' : j < L.length * 3 := by simpa using hj
  refine ⟨?_, by simp [World.frozen?, hb]⟩
  have h1 : (cur.toList.take (L.length * 3))[j]? = (L.flatMap Key.cells)[j]? := by rw [h]
  rw [List.getElem?_take_of_lt hj', flat_get L j hj'] at h1
  have hd : j / 3 < L.length := by omega
  have hm : j % 3 < 3 := Nat.mod_lt _ (by omega)
  rw [get_flatK _ _ _ _ (by simpa using hj'), Nat.zero_add, cell_of_row _ _ _ _ _ _ hb, ← Array.getElem?_toList, h1]
  have e1 : L.toArray[j / 3]! = L[j / 3] := by simp [hd]
  rw [e1, List.getElem?_eq_getElem hd]
  have hl : j % 3 < (L[j / 3]).cells.length := hm
  simp only [Option.bind_some, id]
  rw [List.getElem?_eq_getElem hl, getElem!_pos (L[j / 3]).cells (j % 3) hl]

/-- what the sort leaves of a row that held L -/
def SortDone (w : World) (g : Nat) (L : List Key) (w' : World) : Prop := ∃ L' : List Key, L'.Perm L ∧ L'.Pairwise (fun x y => ¬ ltK y x) ∧ KeysAt w' g L' ∧ w.grownBy w' (some g)

theorem grownBy_sortK (w : World) (g n : Nat) (d : Array Key) (os : Array Obj) : w.grownBy (sortWorldK Key.cells 3 w g 0 n d os) (some g) := by
  refine ⟨rfl, rfl, rfl, by unfold sortWorldK putRowK; simp, fun k hk hne => ?_⟩
  have hne' : g ≠ k := fun e => hne (by rw [e])
  unfold sortWorldK putRowK
  rw [heap_grow_old _ _ (by simpa using hk)]
  simp [putRow, mapBlock, Sort.ahead, Array.getElem?_modify, hne']

theorem keysAt_holds {w : World} {g : Nat} {d : Array Key} (h : HoldsK Key.cells 3 w g 0 d) : KeysAt w g d.toList := by
  intro i hi
  have hi' : i < d.size := by simpa using hi
  have e : d[i]! = d.toList[i] := by simp [hi']
  have h0 := (h.cell (i := i) (c := 0) hi' (by omega)).1
  have h1 := (h.cell (i := i) (c := 1) hi' (by omega)).1
  have h2 := (h.cell (i := i) (c := 2) hi' (by omega)).1
  rw [e, Nat.zero_add] at h0 h1 h2
  exact ⟨h0, h1, h2⟩

theorem sort_done (g cap : Nat) (L : List Key) (w : World) (hH : HoldsK Key.cells 3 w g 0 L.toArray) (hg : g < w.heap.size) (hn : L.length < 1000000) :
    Calls Try.prog 24 #[.slice (some ⟨g, 0, none⟩) L.length cap, .func (.func 25) #[] #[]] w fun e w' => e = .returned (.tuple #[]) ∧ SortDone w g L w' := by
  have hc := sort_any g cap L.toArray w hH hg (by simpa using hn)
  rw [List.size_toArray] at hc
  refine hc.mono fun e w' ⟨he, d', n, os, hp, hs, hw⟩ => ⟨he, d'.toList, ?_, ?_, ?_, ?_⟩
  · obtain ⟨h1, _, h3⟩ := hp
    have h1' : d'.size = L.length := by simpa using h1
    have a1 : d'.extract 0 L.length = d' := by rw [← h1']; simp
    have a2 : L.toArray.extract 0 L.length = L.toArray := by simp
    rw [a1, a2] at h3
    exact h3
  · have h1' : d'.size = L.length := by have := hp.1; simpa using this
    rw [List.pairwise_iff_getElem]
    intro i j hi hj hij
    have := hs i j (Nat.zero_le _) hij (by simpa [h1'] using hj)
    rw [ltOf_cmpK, decide_eq_false_iff_not] at this
    have hi' : i < d'.size := by simpa using hi
    have hj' : j < d'.size := by simpa using hj
    simpa [hi', hj'] using this
  · rw [hw]
    have h1' : d'.size = L.toArray.size := hp.1
    exact keysAt_holds (holdsK_sortWorldK_c Key.cells 3 w g 0 L.toArray d' n os hH hg h1')
  · rw [hw]; exact grownBy_sortK w g n d' os

set_option maxRecDepth 100000 in
set_option maxHeartbeats 1000000 in
theorem sorted_any (B : Nat) (ks ks' : List Key) (w : World) (hset : SetAt w B ks) (hk : ∀ y ∈ ks, y.wf) (hs : ks'.Pairwise ltK) (he : ∀ x, x ∈ ks ↔ x ∈ ks') (hne : ks' ≠ []) (hlen : ks.length ≤ 1000) :
    Calls Try.prog 10 #[.map (some B)] w (SortedPost w ks') := by
  obtain ⟨i0, hi, hz0, hz1, hz2⟩ := info_parts info35
  have hown : w.ownsMap Try.prog 35 rB B ks.length (setOf yes (ks.map kl)) := hset
  have hsz := hown.size_le
  have hBl := hown.lt
  have HP := Lib.hid (fun (left : Lit → Bool) (L : List Key) (h : Coll (setOf yes (ks.map kl)) left L) (hl : ∀ l, left l = false) => h.perm hk hl (ks' := ks') (hs.imp (fun {a b} h e => by subst e; exact ltK_irrefl _ h)) he)
  have HS := Lib.hid hs
  have HN := Lib.hid hne
  clear hset hk hs he hne
  generalize setOf yes (ks.map kl) = D at *
  go_enter Try.func10, Try.ntmps10
  go_wp2_with (first | (at_range; refine wpList_range_own _ rfl _ 47 rfl 35 4 mlaw Try.underlying47 rB B ks.length D rfl hown ?_; intro w0 hrg0 hg0 hs0))
  go_frame
  go_loopw [2] (fun v wr => ∃ (left : Lit → Bool) (cnt : Nat) (L : List Key), wr.ranges Try.prog 35 rB B w.heap.size ks.length D left cnt ∧ L.length + cnt ≤ Maps.size D ∧
      wr.ownsRow w.heap.size 35 3 v L.length (L.flatMap Key.cells) ∧ Coll D left L ∧ Below w.heap.size w wr)
    (fun _ wr => wr.rangeLeft B w.heap.size)
  case atStart =>
    exact ⟨_, _, [], hrg0, by simp, ⟨rfl, .inl ⟨rfl, rfl⟩⟩, Coll.start D, (Below.refl _ _).grown hg0 (Nat.le_refl _) (fun j hj => by cases hj)⟩
  case round =>
    obtain ⟨left, cnt, L, hrg, hcs, hrow, hC, hnx⟩ := hrel
    go_wp2_with (first
      | (at_next; refine wpList_next_ranges _ rfl _ rfl 35 mlaw rB encK boolOf (fun key kl hk => by obtain ⟨x, hx, _⟩ := keyOf_inv hk; exact ⟨x, hx⟩) (fun v y hv => rB_inv hv) B w.heap.size ks.length _ _ _ rfl hrg ?_ ?_))
    · intro hc0 hl0
      have hp := HP.out left L hC hl0
      have HLP := Lib.hid hp
      rcases hrow.2 with ⟨_, hnil⟩ | ⟨g, cap, cur, rfl, hbase, hb, h1, h2, h3, h4⟩
      · have : L = [] := List.length_eq_zero_iff.1 hnil
        subst this
        exact absurd (List.nil_perm.1 hp) HN.out
      have hH : HoldsK Key.cells 3 wr g 0 L.toArray := holdsK_row hb h4
      have hgl : g < wr.heap.size := (Array.getElem?_eq_some_iff.1 hb).1
      have hc := sort_done g cap L wr hH hgl (by omega)
      clear hH hp
      go_wp2_with (first | (go_at_call 24; refine hc.mono ?_; rintro e w' ⟨rfl, hd⟩))
      go_ret
      obtain ⟨L', q1, q2, q3, q4⟩ := hd
      have he : L' = ks' := sorted_unique (q1.trans HLP.out) q2 HS.out
      subst he
      refine ⟨g, cap, ?_, hbase, Nat.lt_of_lt_of_le hgl q4.size, q3, hnx.grown q4 hnx.size (fun j hj => by cases hj; exact hbase)⟩
      rw [q1.length_eq]
      rfl
    · intro x c klit yd yp w2 cnt2 hkey hlk hv hat hrg2 hlt hg2 hs2 hen
      obtain ⟨x', ex, rfl, hxw⟩ := keyOf_inv hkey
      obtain rfl : x = x' := by
        obtain ⟨x1, x2, x3⟩ := x
        obtain ⟨y1, y2, y3⟩ := x'
        simp [encK] at ex
        obtain ⟨rfl, rfl, rfl⟩ := ex
        rfl
      have hrow2 := hrow.kept hg2 (Or.inr (row_ne_iter hrow hrg).symm)
      have HX := Lib.hid (hC.step hxw hlk (has_true_of_atKey hat))
      have hsz2 := hnx.size
      have hsz3 := hg2.size
      have HA := Lib.hid hat
      have HL := Lib.hid hlk
      have HV := Lib.hid hv
      clear hs2 hat hkey hv hlk ex
      obtain ⟨k, m, n⟩ := x
      simp only [encK] at hen ⊢
      go_wp2_with (first
        | (at_builtin; refine wpList_append_own _ rfl _ _ 27 rfl w.heap.size 35 i0 (.agg #[.int .i64 0, .int .i64 0, .int .i64 0]) 3 24 Try.underlying27 hi hz0 hz1 hz2 rfl (by decide) _ _ _ rfl ((hrow2.alloc _).alloc _) ⟨w2.heap.size + 1, 0, none⟩ 1 1 [.int .i64 k, .int .i64 m, .int .i64 n] rfl rfl ?c1 ?c2 ?c3 ?c4 ?c5 ?_))
      case c1 => exact World.news_of_block (cs := #[.int .i64 k, .int .i64 m, .int .i64 n]) (t := 35) (fr := (0, 0)) (heap_alloc2_new w2 _ _)
      case c2 => simp [Value.oneCell']
      case c3 => unfold maxLen; omega
      case c4 => omega
      case c5 => simp; omega
      intro v' w3 hown' hg3 hnil3
      have hrg3 := ((hrg2.alloc _).alloc _).kept hg3 (row_ne_low hrow2 hBl) (row_ne_iter hrow2 hrg2)
      go_wp2
      go_roundw
      case rel =>
        refine ⟨_, cnt2, L ++ [⟨k, m, n⟩], hrg3, by simp; omega, by simpa [Key.cells, List.flatMap_append] using hown', HX.out, ?_⟩
        exact (((hnx.grown hg2 hnx.size (fun j hj => by cases hj; exact Nat.le_refl _)).alloc (by omega) _).alloc (by simp; omega) _).grown hg3 (by simp; omega) (fun j hj => (hrow2.lt j hj).1)
      case measure => rw [hrg3.left_eq, hrg.left_eq]; exact hlt

end Go.Proofs.Ytkdfecmbhijgnaa
