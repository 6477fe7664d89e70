/-
  The searches over lots and over maps of causes answer as 'some of them holds'; for at most 1000 of them.
-/
import Derived.Test.YtkdfecmbhijgnaaR
namespace Go.Proofs.Ytkdfecmbhijgnaa
open Go.RowKit Go.Maps Go.Sort

/-! areMany: no list of lots is too long -/

set_option maxHeartbeats 400000 in
theorem long_no (a : Option Addr) (n c : Nat) (w : World) (h : n ≤ 40) :
    Calls Try.prog 58 #[.slice a n c] w fun e w' => e = .returned (.bool false) ∧ w = w' := by
  go_enter Try.func58, Try.ntmps58
  go_wp2
  go_ret
  exact ⟨ret_bool (by simp; omega), rfl⟩

set_option maxHeartbeats 400000 in
theorem indexLots (n b : Nat) (A : Nat → Option Addr) (N C : Nat → Nat) (w : World) (hn : n ≤ 1000)
    (hx : ∀ i, i < n → w.cell? ⟨b, i, none⟩ = some (.slice (A i) (N i) (C i)) ∧ N i ≤ 40) :
    Calls Try.prog 65 #[.slice (some ⟨b, 0, none⟩) n n, .func (.func 58) #[] #[]] w fun e w' => e = .returned (.int .i64 (-1)) ∧ w = w' := by
  go_enter Try.func65, Try.ntmps65
  go_wp2
  go_loop [8] (fun i => ∃ k : Nat, k ≤ n ∧ i = .int .i64 k) (fun i => n - (intOf i).toNat)
  case atStart => exact ⟨0, Nat.zero_le _, rfl⟩
  case round =>
    obtain ⟨k, hk, rfl⟩ := hrel
    by_cases hlt : k < n
    · obtain ⟨hc, h40⟩ := hx k hlt
      go_wp2_with (go_at_call 58; refine (long_no _ _ _ _ h40).mono ?_; rintro e w' ⟨rfl, rfl⟩)
      go_round
      case rel => exact ⟨k + 1, by omega, by go_num⟩
      case measure => simp [intOf]; omega
    · go_wp2
      go_ret
      exact ⟨rfl, rfl⟩

set_option maxHeartbeats 400000 in
theorem containsLots (n b : Nat) (A : Nat → Option Addr) (N C : Nat → Nat) (w : World) (hn : n ≤ 1000)
    (hx : ∀ i, i < n → w.cell? ⟨b, i, none⟩ = some (.slice (A i) (N i) (C i)) ∧ N i ≤ 40) :
    Calls Try.prog 57 #[.slice (some ⟨b, 0, none⟩) n n, .func (.func 58) #[] #[]] w fun e w' => e = .returned (.bool false) ∧ w = w' := by
  have hc := indexLots n b A N C w hn hx
  clear hx
  go_enter Try.func57, Try.ntmps57
  go_wp2_with (go_at_call 65; refine hc.mono ?_; rintro e w' ⟨rfl, rfl⟩)
  go_ret
  exact ⟨rfl, rfl⟩

set_option maxHeartbeats 400000 in
theorem areMany_no (b : Nat) (A A' : Option Addr) (N N' C C' : Nat) (w : World) (h0 : w.cell? ⟨b, 0, none⟩ = some (.slice A N C)) (h1 : w.cell? ⟨b, 1, none⟩ = some (.slice A' N' C')) (hN : N ≤ 40) (hN' : N' ≤ 40) :
    Calls Try.prog 41 #[.slice (some ⟨b, 0, none⟩) 2 2] w fun e w' => e = .returned (.bool false) ∧ w = w' := by
  have hc := containsLots 2 b (fun i => if i = 0 then A else A') (fun i => if i = 0 then N else N') (fun i => if i = 0 then C else C') w (by omega) (fun i hi => by
    have : i = 0 ∨ i = 1 := by omega
    rcases this with rfl | rfl
    · exact ⟨h0, hN⟩
    · exact ⟨h1, hN'⟩)
  clear h0 h1
  go_enter Try.func41, Try.ntmps41
  go_wp2_with (go_at_call 57; refine hc.mono ?_; rintro e w' ⟨rfl, rfl⟩)
  go_ret
  exact ⟨rfl, rfl⟩

/-! what a set answers -/

theorem atKey_fold (u z : DataW Unit) (k : Lit) (hk : WideAt.IsKeyLit k) : ∀ (acc : List Lit) (m : DataW Unit), IsMap m → (Maps.has m k = true → m.atKey k z = u) →
    Maps.has (acc.foldl (fun m x => m.put x u) m) k = true → (acc.foldl (fun m x => m.put x u) m).atKey k z = u
  | [], m, _, h, hh => h hh
  | x :: r, m, hm, h, hh => by
    refine atKey_fold u z k hk r (m.put x u) (hm.put x u) (fun hx => ?_) hh
    by_cases e : k = x
    · subst e; exact atKey_put_same hm hk u z
    · rw [atKey_put_other e]
      rw [has_put_other e] at hx
      exact h hx

theorem atKey_set (u z : DataW Unit) (k : Lit) (hk : WideAt.IsKeyLit k) (acc : List Lit) (h : Maps.has (setOf u acc) k = true) : (setOf u acc).atKey k z = u :=
  atKey_fold u z k hk acc (.map []) isMap_empty (fun h => by simp [Maps.has] at h) h

theorem zero4 (w : World) : (zeroValue 4).run Try.prog w = .ok (.bool false) w := by kernel_rfl

theorem lookup_set {w : World} {B : Nat} {ks : List Key} (h : SetAt w B ks) (hk : ∀ y ∈ ks, y.wf) (x : Key) (hx : x.wf) :
    (Instr.lookup 47 (.map (some B)) (.agg #[.int .i64 x.k, .int .i64 x.m, .int .i64 x.n]) false).run Try.prog w = .ok (.bool (decide (x ∈ ks))) w := by
  obtain ⟨v, ps, hrun, hv⟩ := World.ownsMap.lookup h mlaw Try.underlying47 (zero4 w) (plainElem_bool Try.underlying4 false) (keyOf_key x hx)
  rw [hrun]
  obtain ⟨c, rfl⟩ := rB_inv hv
  have hv' : rB (boolOf c) = some (.lit (.bool (decide (c = 1))), []) := plainElem_bool Try.underlying4 _
  rw [hv'] at hv
  simp only [Option.some.injEq, Prod.mk.injEq] at hv
  have hat := hv.1
  by_cases hm : x ∈ ks
  · have hh := (has_set hx hk).2 hm
    rw [atKey_set yes _ _ (kl_key x) _ hh] at hat
    have : decide (c = 1) = true := by simpa [yes] using hat
    simp only [boolOf, this, hm, decide_true]
  · have hh : Maps.has (setOf yes (ks.map kl)) (kl x) = false := by
      cases hb : Maps.has (setOf yes (ks.map kl)) (kl x) with
      | false => rfl
      | true => exact absurd ((has_set hx hk).1 hb) hm
    rw [atKey_of_not_has hh] at hat
    have : decide (c = 1) = false := by simpa using hat
    simp only [boolOf, this, hm, decide_false]

end Go.Proofs.Ytkdfecmbhijgnaa
