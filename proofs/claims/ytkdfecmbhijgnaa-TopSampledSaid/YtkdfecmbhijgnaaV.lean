/-
  mill.all returns one map of causes a lot, for at most 40 lots.
-/
import Derived.Test.YtkdfecmbhijgnaaU
namespace Go.Proofs.Ytkdfecmbhijgnaa
open Go.RowKit Go.Maps Go.Sort

structure Lot where
  m : Int
  f : Int
  t : Int

def Lot.ok (x : Lot) : Prop := (0 ≤ x.m ∧ x.m ≤ 1000) ∧ 0 ≤ x.f ∧ x.f ≤ x.t ∧ x.t ≤ 100000

def LotsAt (w : World) (b : Nat) (ls : List Lot) : Prop := ∀ i, (h : i < ls.length) →
  w.cell? ⟨b, i * 3, none⟩ = some (.int .i64 ls[i].m) ∧ w.cell? ⟨b, i * 3 + 1, none⟩ = some (.int .i64 ls[i].f) ∧ w.cell? ⟨b, i * 3 + 2, none⟩ = some (.int .i64 ls[i].t)

theorem LotsAt.kept {w W : World} {b : Nat} {ls : List Lot} (h : LotsAt w b ls) (hb : b < w.heap.size) (hB : Below w.heap.size w W) : LotsAt W b ls := fun i hi =>
  have k := h i hi
  ⟨(hB.cell (p := ⟨b, _, none⟩) hb).trans k.1, (hB.cell (p := ⟨b, _, none⟩) hb).trans k.2.1, (hB.cell (p := ⟨b, _, none⟩) hb).trans k.2.2⟩

theorem info47 : (Try.prog.info? 47).map (fun i => (i.zero, i.size, i.bytes)) = some (some (.map none), 1, 8) := by kernel_rfl

def mapv (B : Nat) : Value := .map (some B)

theorem set_ne_row {w : World} {B : Nat} {ks : List Key} (hset : SetAt w B ks) {base : Nat} {e : TypeId} {size : Nat} {v : Value} {n : Nat} {xs : List Value} (h : w.ownsRow base e size v n xs) : some B ≠ v.ownBlock := by
  obtain ⟨es, clock, hb, _⟩ := hset
  rcases h.2 with ⟨rfl, _⟩ | ⟨g, cap, cur, rfl, _, hc, _⟩
  · simp [Value.ownBlock]
  · intro e1
    have : B = g := by simpa [Value.ownBlock] using e1
    subst this
    rw [hb] at hc
    cases hc

theorem SetAt.stay {w w' : World} {B : Nat} {ks : List Key} {o : Obj} {row : Option Nat} (h : SetAt w B ks) (hg : (w.alloc o).grownBy w' row) (hne : some B ≠ row) : SetAt w' B ks :=
  World.ownsMap.kept (World.ownsMap.alloc h o) hg hne

def AllPost (w : World) (rs : List Run) (ls : List Lot) (e : Ending) (w' : World) : Prop := ∃ (v : Value) (Bs : List Nat), e = .returned (.tuple #[v, .int .i64 0]) ∧ Bs.length = ls.length ∧
  w'.ownsRow w.heap.size 47 1 v ls.length (Bs.map mapv) ∧ (∀ i, (h : i < ls.length) → ∀ h2 : i < Bs.length, SetAt w' Bs[i] (puts rs ls[i].m ls[i].f ls[i].t)) ∧ Below w.heap.size w w'

set_option maxRecDepth 100000 in
set_option maxHeartbeats 1000000 in
theorem all_any (rs : List Run) (b cap bl capl : Nat) (ls : List Lot) (w : World) (hn : rs.length ≤ 60) (hc : rs.length ≤ cap) (hcap : cap ≤ 9223372036854775807) (hb : b < w.heap.size) (hr : RunsAt w b rs)
    (hok : ∀ i, (h : i < rs.length) → rs[i].ok) (hln : ls.length ≤ 40) (hbl : bl < w.heap.size) (hls : LotsAt w bl ls) (hlo : ∀ i, (h : i < ls.length) → ls[i].ok)
    (hT : ∀ i, (h : i < ls.length) → (puts rs ls[i].m ls[i].f ls[i].t).length ≤ 1000) :
    Calls Try.prog 42 #[.slice (some ⟨b, 0, none⟩) rs.length cap, .slice (some ⟨bl, 0, none⟩) ls.length capl] w (AllPost w rs ls) := by
  obtain ⟨i0, hi, hz0, hz1, hz2⟩ := info_parts info47
  have c2 := fun lm lf lt W h1 h2 h3 h4 => causes_any rs b cap lm lf lt W hn hc hcap h1 h2 hok h3 h4
  have HR := Lib.hid hr
  have HL := Lib.hid hls
  have HO := Lib.hid hlo
  have HT := Lib.hid hT
  clear hr hls hok hlo hT
  go_enter Try.func42, Try.ntmps42
  go_wp2
  go_loopw [4, 12] (fun v i wr => ∃ (k : Nat) (Bs : List Nat), k ≤ ls.length ∧ i = .int .i64 k ∧ Bs.length = k ∧ wr.ownsRow w.heap.size 47 1 v k (Bs.map mapv) ∧
      (∀ i, (h : i < ls.length) → ∀ h2 : i < Bs.length, SetAt wr Bs[i] (puts rs ls[i].m ls[i].f ls[i].t)) ∧ Below w.heap.size w wr) (fun _ i _ => ls.length - (intOf i).toNat)
  case atStart => exact ⟨0, [], Nat.zero_le _, rfl, rfl, ⟨rfl, .inl ⟨rfl, rfl⟩⟩, fun i _ h2 => by simp at h2, Below.refl _ _⟩
  case round =>
    obtain ⟨k, Bs, hk, rfl, hBk, hrow, hsets, hbw⟩ := hrel
    have HBK := Lib.hid hBk
    have HSETS := Lib.hid hsets
    clear hBk hsets
    by_cases hlt : k < ls.length
    · obtain ⟨q0, q1, q2⟩ := HL.out.kept hbl hbw k hlt
      have ho := HO.out k hlt
      have ht := HT.out k hlt
      have HSN := Lib.hid (fun (w' : World) (B : Nat) (h1 : ∀ i, (h : i < ls.length) → ∀ h2 : i < Bs.length, SetAt w' Bs[i] (puts rs ls[i].m ls[i].f ls[i].t)) (h2 : SetAt w' B (puts rs ls[k].m ls[k].f ls[k].t)) =>
        (show ∀ i, (h : i < ls.length) → ∀ h2 : i < (Bs ++ [B]).length, SetAt w' (Bs ++ [B])[i] (puts rs ls[i].m ls[i].f ls[i].t) from fun i hi hi2 => by
          by_cases e : i < Bs.length
          · rw [List.getElem_append_left e]; exact h1 i hi e
          · have e2 : i = k := by simp at hi2; have := HBK.out; omega
            subst e2
            rw [List.getElem_append_right (by omega)]
            simpa using h2))
      generalize ls[k] = x at *
      obtain ⟨m, f, t⟩ := x
      simp only [] at q0 q1 q2
      have hbz := hbw.size
      go_wp2_with (first
        | (go_at_call 9; refine (c2 _ _ _ _ ?_ ?_ ?_ ?_).mono ?_; (simp; omega); exact HR.out.kept hb (hbw.alloc hbw.size _); exact ho; exact ht; rintro e w2 ⟨B, rfl, hset, hB, hb2⟩; have hb3 := laid_below hb2; have hrow2 := hrow.kept (Below.toGrown hb3 none) (Classical.em _); clear q0 q1 q2)
        | (at_builtin; refine wpList_append_own _ rfl _ _ 93 rfl w.heap.size 47 i0 (.map none) 1 8 Try.underlying93 hi hz0 hz1 hz2 rfl (by decide) _ _ _ rfl (hrow2.alloc _) ⟨w2.heap.size, 0, none⟩ 1 1 [.map (some B)] rfl rfl ?c1 ?c2 ?c3 ?c4 ?c5 ?_))
      case c1 => exact World.news_of_block (cs := #[.map (some B)]) (t := 47) (fr := (0, 0)) (heap_alloc_new w2 _)
      case c2 => simp [Value.oneCell']
      case c3 => unfold maxLen; omega
      case c4 => omega
      case c5 => have := hb3.size; simp; omega
      intro v' w4 hown' hg4 hnil4
      have hz3 := hb3.size
      have HS1 := Lib.hid (HSN.out w4 B (fun i hi hi2 => ((HSETS.out i hi hi2).below hb3).stay hg4 (set_ne_row ((HSETS.out i hi hi2).below hb3) hrow2)) (hset.stay hg4 (set_ne_row hset hrow2)))
      have HB4 := Lib.hid (((hbw.trans (hb3.mono hbw.size)).alloc (Nat.le_trans hbw.size hb3.size) (.cells #[.map (some B)] 47)).grown hg4 (by simp; omega) (fun j hj => (hrow2.lt j hj).1))
      go_wp2
      go_roundw
      case rel => exact ⟨k + 1, Bs ++ [B], by omega, by go_num, by rw [List.length_append, HBK.out]; rfl, by simpa [mapv] using hown', HS1.out, HB4.out⟩
      case measure => simp [intOf]; omega
    · obtain rfl : k = ls.length := by omega
      go_wp2
      go_ret2
      exact ⟨_, Bs, rfl, HBK.out, hrow, HSETS.out, hbw⟩


def AllSome (w : World) (n : Nat) (Ks : Nat → List Key) (e : Ending) (w' : World) : Prop := ∃ (g capv : Nat) (Bs : Nat → Nat), e = .returned (.tuple #[.slice (some ⟨g, 0, none⟩) n capv, .int .i64 0]) ∧ g < w'.heap.size ∧
  (∀ i, i < n → w'.cell? ⟨g, i, none⟩ = some (.map (some (Bs i)))) ∧ (∀ i, i < n → SetAt w' (Bs i) (Ks i)) ∧ Below w.heap.size w w'

theorem all_some {w : World} {rs : List Run} {ls : List Lot} {Ks : Nat → List Key} (hl1 : 1 ≤ ls.length) (hK : ∀ i, (h : i < ls.length) → Ks i = puts rs ls[i].m ls[i].f ls[i].t) {e : Ending} {w' : World} (h : AllPost w rs ls e w') : AllSome w ls.length Ks e w' := by
  obtain ⟨v, Bs, rfl, hB, hrow, hsets, hb⟩ := h
  rcases hrow.2 with ⟨_, h0⟩ | ⟨g, cap, cur, rfl, hbase, hg, h1, h2, h3, h4⟩
  · omega
  · refine ⟨g, cap, fun i => Bs.getD i 0, rfl, (Array.getElem?_eq_some_iff.1 hg).1, fun i hi => ?_, fun i hi => ?_, hb⟩
    · rw [cell_of_row _ _ _ _ _ _ hg, ← Array.getElem?_toList]
      have : (cur.toList.take (ls.length * 1))[i]? = (Bs.map mapv)[i]? := by rw [h4]
      rw [List.getElem?_take_of_lt (by omega)] at this
      rw [this]
      have hi2 : i < Bs.length := by omega
      simp [hi2, mapv]
    · have hi2 : i < Bs.length := by omega
      have := hsets i hi hi2
      rw [hK i hi]
      simpa [hi2] using this

end Go.Proofs.Ytkdfecmbhijgnaa
