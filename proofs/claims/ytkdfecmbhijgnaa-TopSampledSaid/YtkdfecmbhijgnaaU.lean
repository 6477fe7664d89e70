/-
  A cause lies in all of some maps: the searches' answers, for at most 1000 maps.
-/
import Derived.Test.YtkdfecmbhijgnaaT
namespace Go.Proofs.Ytkdfecmbhijgnaa
open Go.RowKit Go.Maps Go.Sort

/-- a cause in its box -/
def KeyBox (w : World) (b : Nat) (x : Key) : Prop := w.cell? ⟨b, 0, none⟩ = some (.int .i64 x.k) ∧ w.cell? ⟨b, 1, none⟩ = some (.int .i64 x.m) ∧ w.cell? ⟨b, 2, none⟩ = some (.int .i64 x.n)

set_option maxHeartbeats 400000 in
theorem hasNot_any (B b : Nat) (ks : List Key) (x : Key) (w : World) (hset : SetAt w B ks) (hk : ∀ y ∈ ks, y.wf) (hx : x.wf) (hb : KeyBox w b x) :
    Calls Try.prog 44 #[.map (some B), .pointer (some ⟨b, 0, none⟩)] w fun e w' => e = .returned (.bool (!decide (x ∈ ks))) ∧ w = w' := by
  have hl := lookup_set hset hk x hx
  obtain ⟨h0, h1, h2⟩ := hb
  clear hset hk hx
  generalize decide (x ∈ ks) = r at *
  obtain ⟨k, m, n⟩ := x
  simp only [] at h0 h1 h2 hl
  go_enter Try.func44, Try.ntmps44
  go_wp2
  go_ret
  exact ⟨rfl, rfl⟩

set_option maxHeartbeats 400000 in
theorem indexIn (n bm b : Nat) (Bs : Nat → Nat) (Ks : Nat → List Key) (x : Key) (w : World) (hn : n ≤ 1000) (hx : x.wf) (hb : KeyBox w b x)
    (hc : ∀ i, i < n → w.cell? ⟨bm, i, none⟩ = some (.map (some (Bs i)))) (hs : ∀ i, i < n → SetAt w (Bs i) (Ks i)) (hk : ∀ i, i < n → ∀ y ∈ Ks i, y.wf) (cap : Nat) (hin : ∀ i, i < n → x ∈ Ks i) :
    Calls Try.prog 59 #[.slice (some ⟨bm, 0, none⟩) n cap, .func (.func 44) #[] #[.pointer (some ⟨b, 0, none⟩)]] w fun e w' => e = .returned (.int .i64 (-1)) ∧ w = w' := by
  have HC := fun i (hi : i < n) => hasNot_any (Bs i) b (Ks i) x w (hs i hi) (hk i hi) hx hb
  have HI := Lib.hid hin
  have HCC := Lib.hid hc
  clear hc hs hk hb hin
  go_enter Try.func59, Try.ntmps59
  go_wp2
  go_loop [8] (fun i => ∃ k : Nat, k ≤ n ∧ i = .int .i64 k) (fun i => n - (intOf i).toNat)
  case atStart => exact ⟨0, Nat.zero_le _, rfl⟩
  case round =>
    obtain ⟨k, hk, rfl⟩ := hrel
    by_cases hlt : k < n
    · have hc := HCC.out k hlt
      have hcall := HC k hlt
      rw [decide_eq_true (HI.out k hlt)] at hcall
      go_wp2_with (go_at_call 44; refine hcall.mono ?_; rintro e w' ⟨rfl, rfl⟩)
      go_round
      case rel => exact ⟨k + 1, by omega, by go_num⟩
      case measure => simp [intOf]; omega
    · go_wp2
      go_ret
      exact ⟨rfl, rfl⟩

set_option maxHeartbeats 400000 in
theorem indexOut (n bm b : Nat) (Bs : Nat → Nat) (Ks : Nat → List Key) (x : Key) (w : World) (hn : n ≤ 1000) (hx : x.wf) (hb : KeyBox w b x)
    (hc : ∀ i, i < n → w.cell? ⟨bm, i, none⟩ = some (.map (some (Bs i)))) (hs : ∀ i, i < n → SetAt w (Bs i) (Ks i)) (hk : ∀ i, i < n → ∀ y ∈ Ks i, y.wf) (cap j : Nat) (hj : j < n) (hin : ∀ i, i < j → x ∈ Ks i) (hout : x ∉ Ks j) :
    Calls Try.prog 59 #[.slice (some ⟨bm, 0, none⟩) n cap, .func (.func 44) #[] #[.pointer (some ⟨b, 0, none⟩)]] w fun e w' => e = .returned (.int .i64 j) ∧ w = w' := by
  have HC := fun i (hi : i < n) => hasNot_any (Bs i) b (Ks i) x w (hs i hi) (hk i hi) hx hb
  have HI := Lib.hid hin
  have HO := Lib.hid hout
  have HCC := Lib.hid hc
  clear hc hs hk hb hin hout
  go_enter Try.func59, Try.ntmps59
  go_wp2
  go_loop [8] (fun i => ∃ k : Nat, k ≤ j ∧ i = .int .i64 k) (fun i => n - (intOf i).toNat)
  case atStart => exact ⟨0, Nat.zero_le _, rfl⟩
  case round =>
    obtain ⟨k, hk, rfl⟩ := hrel
    have hlt : k < n := by omega
    have hc := HCC.out k hlt
    have hcall := HC k hlt
    by_cases hkj : k < j
    · rw [decide_eq_true (HI.out k hkj)] at hcall
      go_wp2_with (go_at_call 44; refine hcall.mono ?_; rintro e w' ⟨rfl, rfl⟩)
      go_round
      case rel => exact ⟨k + 1, by omega, by go_num⟩
      case measure => simp [intOf]; omega
    · obtain rfl : k = j := by omega
      rw [decide_eq_false HO.out] at hcall
      go_wp2_with (go_at_call 44; refine hcall.mono ?_; rintro e w' ⟨rfl, rfl⟩)
      go_ret
      exact ⟨rfl, rfl⟩

set_option maxHeartbeats 400000 in
theorem containsIn (n bm b : Nat) (Bs : Nat → Nat) (Ks : Nat → List Key) (x : Key) (w : World) (hn : n ≤ 1000) (hx : x.wf) (hb : KeyBox w b x)
    (hc : ∀ i, i < n → w.cell? ⟨bm, i, none⟩ = some (.map (some (Bs i)))) (hs : ∀ i, i < n → SetAt w (Bs i) (Ks i)) (hk : ∀ i, i < n → ∀ y ∈ Ks i, y.wf) (cap : Nat) (hin : ∀ i, i < n → x ∈ Ks i) :
    Calls Try.prog 45 #[.slice (some ⟨bm, 0, none⟩) n cap, .func (.func 44) #[] #[.pointer (some ⟨b, 0, none⟩)]] w fun e w' => e = .returned (.bool false) ∧ w = w' := by
  have h := indexIn n bm b Bs Ks x w hn hx hb hc hs hk cap hin
  clear hc hs hk hb hin
  go_enter Try.func45, Try.ntmps45
  go_wp2_with (go_at_call 59; refine h.mono ?_; rintro e w' ⟨rfl, rfl⟩)
  go_ret
  exact ⟨rfl, rfl⟩

set_option maxHeartbeats 400000 in
theorem containsOut (n bm b : Nat) (Bs : Nat → Nat) (Ks : Nat → List Key) (x : Key) (w : World) (hn : n ≤ 1000) (hx : x.wf) (hb : KeyBox w b x)
    (hc : ∀ i, i < n → w.cell? ⟨bm, i, none⟩ = some (.map (some (Bs i)))) (hs : ∀ i, i < n → SetAt w (Bs i) (Ks i)) (hk : ∀ i, i < n → ∀ y ∈ Ks i, y.wf) (cap j : Nat) (hj : j < n) (hin : ∀ i, i < j → x ∈ Ks i) (hout : x ∉ Ks j) :
    Calls Try.prog 45 #[.slice (some ⟨bm, 0, none⟩) n cap, .func (.func 44) #[] #[.pointer (some ⟨b, 0, none⟩)]] w fun e w' => e = .returned (.bool true) ∧ w = w' := by
  have h := indexOut n bm b Bs Ks x w hn hx hb hc hs hk cap j hj hin hout
  clear hc hs hk hb hin hout
  go_enter Try.func45, Try.ntmps45
  go_wp2_with (go_at_call 59; refine h.mono ?_; rintro e w' ⟨rfl, rfl⟩)
  go_ret
  exact ⟨ret_bool (by simp), rfl⟩

set_option maxHeartbeats 400000 in
theorem indexNil (f : Value) (w : World) : Calls Try.prog 59 #[.slice none 0 0, f] w fun e w' => e = .returned (.int .i64 (-1)) ∧ w = w' := by
  go_enter Try.func59, Try.ntmps59
  go_wp2
  refine wp_loop_rounds 1 ?_
  rw [rounds_succ]
  go_wp2
  go_ret
  exact ⟨rfl, rfl⟩

set_option maxHeartbeats 400000 in
theorem containsNil (f : Value) (w : World) : Calls Try.prog 45 #[.slice none 0 0, f] w fun e w' => e = .returned (.bool false) ∧ w = w' := by
  go_enter Try.func45, Try.ntmps45
  go_wp2_with (go_at_call 59; refine (indexNil _ _).mono ?_; rintro e w' ⟨rfl, rfl⟩)
  go_ret
  exact ⟨rfl, rfl⟩

end Go.Proofs.Ytkdfecmbhijgnaa
