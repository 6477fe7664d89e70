/-
  The checks of whole numbers between two bounds (lot, mill: one, two or more numbers) answer as 'each lies between'; no condition on the numbers.
-/
import Derived.Test.YtkdfecmbhijgnaaProg
import Derived.WalkKit
import Derived.WalkSpells
import Derived.WalkLawsBesides
import Derived.Lib.Hide
namespace Go.Proofs.Ytkdfecmbhijgnaa
open Go.RowKit

def out (l m n : Int) : Bool := decide (n < l) || decide (n > m)

set_option maxHeartbeats 400000 in
theorem out_lot (n l m : Int) (p q : Addr) (w : World) (hp : w.cell? p = some (.int .i64 l)) (hq : w.cell? q = some (.int .i64 m)) :
    Calls Try.prog 30 #[.int .i64 n, .pointer (some p), .pointer (some q)] w fun e w' => e = .returned (.bool (out l m n)) ∧ w = w' := by
  by_cases h : n < l
  · go_enter Try.func30, Try.ntmps30
    go_wp2
    go_ret
    exact ⟨by simp [out, h], rfl⟩
  · by_cases h2 : m < n
    all_goals
      go_enter Try.func30, Try.ntmps30
      go_wp2
      go_ret
      exact ⟨by simp [out]; omega, rfl⟩


theorem ret_int {k : IntKind} {a b : Int} (h : a = b) : Ending.returned (.int k a) = .returned (.int k b) := by rw [h]
theorem ret_bool {a b : Bool} (h : a = b) : Ending.returned (.bool a) = .returned (.bool b) := by rw [h]

-- the first place in a list of integers that lies outside; -1 if there is none
def idx (l m : Int) : List Int → Int → Int
  | [], _ => -1
  | x :: r, k => if out l m x = true then k else idx l m r (k + 1)

set_option maxHeartbeats 400000 in
theorem index_lot (xs : List Int) (b : Nat) (l m : Int) (p q : Addr) (w : World) (hn : xs.length ≤ 1000)
    (hx : ∀ i, i < xs.length → w.cell? ⟨b, i, none⟩ = some (.int .i64 (xs.getD i 0)))
    (hp : w.cell? p = some (.int .i64 l)) (hq : w.cell? q = some (.int .i64 m)) :
    Calls Try.prog 39 #[.slice (some ⟨b, 0, none⟩) xs.length xs.length, .func (.func 30) #[] #[.pointer (some p), .pointer (some q)]] w
      fun e w' => e = .returned (.int .i64 (idx l m xs 0)) ∧ w = w' := by
  go_enter Try.func39, Try.ntmps39
  go_wp2
  go_loop [8] (fun i => ∃ k : Nat, k ≤ xs.length ∧ i = .int .i64 k ∧ idx l m xs 0 = idx l m (xs.drop k) k) (fun i => xs.length - (intOf i).toNat)
  case atStart => exact ⟨0, Nat.zero_le _, rfl, rfl⟩
  case round =>
    obtain ⟨k, hk, rfl, hi⟩ := hrel
    have HI := Lib.hid hi
    clear hi
    by_cases hlt : k < xs.length
    · have hc := hx k hlt
      have hdr : Hid (xs.drop k = xs[k] :: xs.drop (k + 1)) := Lib.hid (List.drop_eq_getElem_cons hlt)
      go_wp2_with (go_at_call 30; refine (out_lot _ _ _ _ _ _ hp hq).mono ?_; rintro e w' ⟨rfl, rfl⟩)
      · have ho : out l m xs[k] = true := by assumption
        go_ret
        refine ⟨ret_int ?_, rfl⟩
        rw [HI.out, hdr.out, idx, if_pos ho]
      · have ho : out l m xs[k] = false := by assumption
        go_round
        case rel => exact ⟨k + 1, by omega, by go_num, by rw [HI.out, hdr.out, idx, if_neg (by simp [ho])]; congr 1⟩
        case measure => simp [intOf]; omega
    · go_wp2
      go_ret
      refine ⟨ret_int ?_, rfl⟩
      rw [HI.out, List.drop_eq_nil_of_le (by omega), idx]

theorem idx_ge (l m : Int) : ∀ (xs : List Int) (k : Int), 0 ≤ k → decide (0 ≤ idx l m xs k) = xs.any (out l m)
  | [], k, _ => by simp [idx]
  | x :: r, k, h => by
    rw [idx, List.any_cons]
    cases ho : out l m x
    · simpa using idx_ge l m r (k + 1) (by omega)
    · simpa using h

def allIn (l m : Int) (xs : List Int) : Bool := !xs.any (out l m)

set_option maxHeartbeats 400000 in
theorem contains_lot (xs : List Int) (b : Nat) (l m : Int) (p q : Addr) (w : World) (hn : xs.length ≤ 1000)
    (hx : ∀ i, i < xs.length → w.cell? ⟨b, i, none⟩ = some (.int .i64 (xs.getD i 0)))
    (hp : w.cell? p = some (.int .i64 l)) (hq : w.cell? q = some (.int .i64 m)) :
    Calls Try.prog 29 #[.slice (some ⟨b, 0, none⟩) xs.length xs.length, .func (.func 30) #[] #[.pointer (some p), .pointer (some q)]] w
      fun e w' => e = .returned (.bool (xs.any (out l m))) ∧ w = w' := by
  have hc := fun W (h : W = w) => index_lot xs b l m p q W hn (by rw [h]; exact hx) (by rw [h]; exact hp) (by rw [h]; exact hq)
  clear hx
  go_enter Try.func29, Try.ntmps29
  go_wp2_with (go_at_call 39; refine (hc _ rfl).mono ?_; rintro e w' ⟨rfl, rfl⟩)
  go_ret
  exact ⟨ret_bool (idx_ge l m xs 0 (by omega)), rfl⟩

set_option maxHeartbeats 400000 in
theorem within_lot (xs : List Int) (b : Nat) (l m : Int) (w : World) (hn : xs.length ≤ 1000) (hb : b < w.heap.size)
    (hx : ∀ i, i < xs.length → w.cell? ⟨b, i, none⟩ = some (.int .i64 (xs.getD i 0))) :
    Calls Try.prog 12 #[.int .i64 l, .int .i64 m, .slice (some ⟨b, 0, none⟩) xs.length xs.length] w
      fun e w' => e = .returned (.bool (allIn l m xs)) ∧ Below w.heap.size w w' := by
  have hmf : ∀ (fn : Fn) (first cap : Array Value) (w : World), (Instr.makeFunc fn first cap).run Try.prog w = .ok (.func fn first cap) w := fun _ _ _ _ => rfl
  have hc := fun W (hB : Below w.heap.size w W) hp hq => contains_lot xs b l m ⟨w.heap.size, 0, none⟩ ⟨w.heap.size + 1, 0, none⟩ W hn (fun i hi => (hB.cell (p := ⟨b, i, none⟩) hb).trans (hx i hi)) hp hq
  clear hx
  go_enter Try.func12, Try.ntmps12
  go_wp2_with (go_at_call 29; refine (hc _ ?c1 ?c2 ?c3).mono ?_)
  case c1 => exact ((Below.refl _ _).alloc (Nat.le_refl _) _).alloc (by simp) _
  case c2 => simp
  case c3 => simp
  rintro e w' ⟨rfl, rfl⟩
  go_wp2
  go_ret
  exact ⟨ret_bool (by simp [allIn]), ((Below.refl _ _).alloc (Nat.le_refl _) _).alloc (by simp) _⟩

theorem bcell {W w1 : World} (hb : Below W.heap.size W w1) : (∀ b o, b < W.heap.size → w1.cell? ⟨b, o, none⟩ = W.cell? ⟨b, o, none⟩) ∧ (∀ b o, b < W.heap.size → w1.frozen? ⟨b, o, none⟩ = W.frozen? ⟨b, o, none⟩) :=
  ⟨fun b o h => hb.cell (p := ⟨b, o, none⟩) h, fun b o h => hb.frozen (p := ⟨b, o, none⟩) h⟩

set_option maxHeartbeats 400000 in
theorem out_mill (n l m : Int) (p q : Addr) (w : World) (hp : w.cell? p = some (.int .i64 l)) (hq : w.cell? q = some (.int .i64 m)) :
    Calls Try.prog 46 #[.int .i64 n, .pointer (some p), .pointer (some q)] w fun e w' => e = .returned (.bool (out l m n)) ∧ w = w' := by
  by_cases h : n < l
  · go_enter Try.func46, Try.ntmps46
    go_wp2
    go_ret
    exact ⟨by simp [out, h], rfl⟩
  · by_cases h2 : m < n
    all_goals
      go_enter Try.func46, Try.ntmps46
      go_wp2
      go_ret
      exact ⟨by simp [out]; omega, rfl⟩


set_option maxHeartbeats 400000 in
theorem index_mill (xs : List Int) (b : Nat) (l m : Int) (p q : Addr) (w : World) (hn : xs.length ≤ 1000)
    (hx : ∀ i, i < xs.length → w.cell? ⟨b, i, none⟩ = some (.int .i64 (xs.getD i 0)))
    (hp : w.cell? p = some (.int .i64 l)) (hq : w.cell? q = some (.int .i64 m)) :
    Calls Try.prog 39 #[.slice (some ⟨b, 0, none⟩) xs.length xs.length, .func (.func 46) #[] #[.pointer (some p), .pointer (some q)]] w
      fun e w' => e = .returned (.int .i64 (idx l m xs 0)) ∧ w = w' := by
  go_enter Try.func39, Try.ntmps39
  go_wp2
  go_loop [8] (fun i => ∃ k : Nat, k ≤ xs.length ∧ i = .int .i64 k ∧ idx l m xs 0 = idx l m (xs.drop k) k) (fun i => xs.length - (intOf i).toNat)
  case atStart => exact ⟨0, Nat.zero_le _, rfl, rfl⟩
  case round =>
    obtain ⟨k, hk, rfl, hi⟩ := hrel
    have HI := Lib.hid hi
    clear hi
    by_cases hlt : k < xs.length
    · have hc := hx k hlt
      have hdr : Hid (xs.drop k = xs[k] :: xs.drop (k + 1)) := Lib.hid (List.drop_eq_getElem_cons hlt)
      go_wp2_with (go_at_call 46; refine (out_mill _ _ _ _ _ _ hp hq).mono ?_; rintro e w' ⟨rfl, rfl⟩)
      · have ho : out l m xs[k] = true := by assumption
        go_ret
        refine ⟨ret_int ?_, rfl⟩
        rw [HI.out, hdr.out, idx, if_pos ho]
      · have ho : out l m xs[k] = false := by assumption
        go_round
        case rel => exact ⟨k + 1, by omega, by go_num, by rw [HI.out, hdr.out, idx, if_neg (by simp [ho])]; congr 1⟩
        case measure => simp [intOf]; omega
    · go_wp2
      go_ret
      refine ⟨ret_int ?_, rfl⟩
      rw [HI.out, List.drop_eq_nil_of_le (by omega), idx]

set_option maxHeartbeats 400000 in
theorem contains_mill (xs : List Int) (b : Nat) (l m : Int) (p q : Addr) (w : World) (hn : xs.length ≤ 1000)
    (hx : ∀ i, i < xs.length → w.cell? ⟨b, i, none⟩ = some (.int .i64 (xs.getD i 0)))
    (hp : w.cell? p = some (.int .i64 l)) (hq : w.cell? q = some (.int .i64 m)) :
    Calls Try.prog 29 #[.slice (some ⟨b, 0, none⟩) xs.length xs.length, .func (.func 46) #[] #[.pointer (some p), .pointer (some q)]] w
      fun e w' => e = .returned (.bool (xs.any (out l m))) ∧ w = w' := by
  have hc := fun W (h : W = w) => index_mill xs b l m p q W hn (by rw [h]; exact hx) (by rw [h]; exact hp) (by rw [h]; exact hq)
  clear hx
  go_enter Try.func29, Try.ntmps29
  go_wp2_with (go_at_call 39; refine (hc _ rfl).mono ?_; rintro e w' ⟨rfl, rfl⟩)
  go_ret
  exact ⟨ret_bool (idx_ge l m xs 0 (by omega)), rfl⟩

set_option maxHeartbeats 400000 in
theorem within_mill (xs : List Int) (b : Nat) (l m : Int) (w : World) (hn : xs.length ≤ 1000) (hb : b < w.heap.size)
    (hx : ∀ i, i < xs.length → w.cell? ⟨b, i, none⟩ = some (.int .i64 (xs.getD i 0))) :
    Calls Try.prog 34 #[.int .i64 l, .int .i64 m, .slice (some ⟨b, 0, none⟩) xs.length xs.length] w
      fun e w' => e = .returned (.bool (allIn l m xs)) ∧ Below w.heap.size w w' := by
  have hmf : ∀ (fn : Fn) (first cap : Array Value) (w : World), (Instr.makeFunc fn first cap).run Try.prog w = .ok (.func fn first cap) w := fun _ _ _ _ => rfl
  have hc := fun W (hB : Below w.heap.size w W) hp hq => contains_mill xs b l m ⟨w.heap.size, 0, none⟩ ⟨w.heap.size + 1, 0, none⟩ W hn (fun i hi => (hB.cell (p := ⟨b, i, none⟩) hb).trans (hx i hi)) hp hq
  clear hx
  go_enter Try.func34, Try.ntmps34
  go_wp2_with (go_at_call 29; refine (hc _ ?c1 ?c2 ?c3).mono ?_)
  case c1 => exact ((Below.refl _ _).alloc (Nat.le_refl _) _).alloc (by simp) _
  case c2 => simp
  case c3 => simp
  rintro e w' ⟨rfl, rfl⟩
  go_wp2
  go_ret
  exact ⟨ret_bool (by simp [allIn]), ((Below.refl _ _).alloc (Nat.le_refl _) _).alloc (by simp) _⟩

end Go.Proofs.Ytkdfecmbhijgnaa
