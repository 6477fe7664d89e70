/-
  The runs of the statement TopSampled: each hour has the three causes of its coil; for 1 to 30 hours and a split within them.
-/
import Derived.Test.YtkdfecmbhijgnaaR
import Derived.Deep.AppendLies
namespace Go.Proofs.Ytkdfecmbhijgnaa
open Go.RowKit Go.Maps Go.Sort

/-- the runs of the law: the first coil's hours, the second's -/
def runsOf (n s : Nat) : List Run := (if 0 < s then [(⟨1, 0, (s : Int) - 1, 7, 1⟩ : Run)] else []) ++ (if s < n then [(⟨1, (s : Int), (n : Int) - 1, 8, 1⟩ : Run)] else [])
def coilAt (s h : Nat) : Int := if h < s then 7 else 8
def keys3 (c : Int) (h : Nat) : List Key := [⟨1, 0, c⟩, ⟨2, 0, 1⟩, ⟨3, 1, (h : Int)⟩]

theorem putsOf_in {f t c : Int} {h : Nat} (h1 : f ≤ h) (h2 : (h : Int) ≤ t) : putsOf 1 h h ⟨1, f, t, c, 1⟩ = keys3 c h := by
  have e1 : max f (h : Int) = h := by omega
  have e2 : min t (h : Int) = h := by omega
  have e3 : ((h : Int) - h + 1).toNat = 1 := by omega
  unfold putsOf
  simp only [e1, e2, e3]
  simp [hoursOf, keys3, List.range_succ]

theorem putsOf_out {f t c : Int} {h : Nat} (h1 : (h : Int) < f ∨ t < (h : Int)) : putsOf 1 h h ⟨1, f, t, c, 1⟩ = [] := by
  unfold putsOf
  rw [if_neg (fun h2 => by have := h2.2; simp only [] at this; omega)]

theorem puts_runs {n s h : Nat} (hs : s ≤ n) (hh : h < n) : puts (runsOf n s) 1 h h = keys3 (coilAt s h) h := by
  unfold puts runsOf coilAt
  rw [List.flatMap_append]
  by_cases h1 : h < s
  · rw [if_pos (by omega : 0 < s), if_pos h1]
    have a : ([(⟨1, 0, (s : Int) - 1, 7, 1⟩ : Run)]).flatMap (putsOf 1 h h) = keys3 7 h := by
      rw [List.flatMap_cons, putsOf_in (by omega) (by omega)]; simp
    rw [a]
    by_cases h2 : s < n
    · rw [if_pos h2, List.flatMap_cons, putsOf_out (by omega)]; simp
    · rw [if_neg h2]; simp
  · rw [if_neg h1, if_pos (by omega : s < n)]
    have a : ([(⟨1, (s : Int), (n : Int) - 1, 8, 1⟩ : Run)]).flatMap (putsOf 1 h h) = keys3 8 h := by
      rw [List.flatMap_cons, putsOf_in (by omega) (by omega)]; simp
    rw [a]
    by_cases h2 : 0 < s
    · rw [if_pos h2, List.flatMap_cons, putsOf_out (by omega)]; simp
    · rw [if_neg h2]; simp

theorem keys3_sorted (c : Int) (h : Nat) : (keys3 c h).Pairwise ltK := by
  unfold keys3
  simp [ltK]

/-- each case of the runs -/
theorem runs_cases {n s : Nat} (P : List Run → Prop) (hn : 1 ≤ n) (hs : s ≤ n)
    (h1 : s = 0 → P [⟨1, (s : Int), (n : Int) - 1, 8, 1⟩]) (h2 : s = n → P [⟨1, 0, (s : Int) - 1, 7, 1⟩])
    (h3 : 0 < s → s < n → P [⟨1, 0, (s : Int) - 1, 7, 1⟩, ⟨1, (s : Int), (n : Int) - 1, 8, 1⟩]) : P (runsOf n s) := by
  unfold runsOf
  by_cases a : 0 < s
  · by_cases b : s < n
    · rw [if_pos a, if_pos b]; exact h3 a b
    · rw [if_pos a, if_neg b]; exact h2 (by omega)
  · rw [if_neg a, if_pos (by omega : s < n)]; exact h1 (by omega)

theorem runs_ok {n s : Nat} (hn : 1 ≤ n ∧ n ≤ 30) (hs : s ≤ n) : ∀ i, (h : i < (runsOf n s).length) → (runsOf n s)[i].ok := by
  refine runs_cases (fun rs => ∀ i, (h : i < rs.length) → rs[i].ok) hn.1 hs ?_ ?_ ?_
  · intro e i hi
    obtain rfl : i = 0 := by simpa using hi
    exact ⟨by simp, by simp; omega⟩
  · intro e i hi
    obtain rfl : i = 0 := by simpa using hi
    exact ⟨by simp, by simp; omega⟩
  · intro a b i hi
    have : i = 0 ∨ i = 1 := by simp at hi; omega
    rcases this with rfl | rfl
    · exact ⟨by simp, by simp; omega⟩
    · exact ⟨by simp, by simp; omega⟩

theorem runs_apart {n s : Nat} (hn : 1 ≤ n) (hs : s ≤ n) : ∀ i j, (h : i < (runsOf n s).length) → (h2 : j < i) → (runsOf n s)[i].apart ((runsOf n s)[j]'(by omega)) := by
  refine runs_cases (fun rs => ∀ i j, (h : i < rs.length) → (h2 : j < i) → rs[i].apart (rs[j]'(by omega))) hn hs ?_ ?_ ?_
  · intro e i j hi hj
    simp at hi; omega
  · intro e i j hi hj
    simp at hi; omega
  · intro a b i j hi hj
    simp at hi
    obtain rfl : i = 1 := by omega
    obtain rfl : j = 0 := by omega
    intro _
    show min ((s : Int) - 1) ((n : Int) - 1) < max (0 : Int) (s : Int)
    omega

theorem runs_len {n s : Nat} (hn : 1 ≤ n) (hs : s ≤ n) : 1 ≤ (runsOf n s).length ∧ (runsOf n s).length ≤ 2 :=
  runs_cases (fun rs => 1 ≤ rs.length ∧ rs.length ≤ 2) hn hs (fun _ => by simp) (fun _ => by simp) (fun _ _ => by simp)

theorem Causes_runs {n s h : Nat} (hn : 1 ≤ n ∧ n ≤ 30) (hs : s ≤ n) (hh : h < n) (b cap : Nat) (w : World) (hc : (runsOf n s).length ≤ cap) (hcap : cap ≤ 9223372036854775807) (hb : b < w.heap.size) (hr : RunsAt w b (runsOf n s)) :
    Calls Try.prog 4 #[.slice (some ⟨b, 0, none⟩) (runsOf n s).length cap, .agg #[.int .i64 1, .int .i64 h, .int .i64 h]] w (CausesDone w (keys3 (coilAt s h) h)) := by
  have hl := runs_len hn.1 hs
  refine Causes_any (runsOf n s) b cap 1 h h (keys3 (coilAt s h) h) w (by omega) hc hcap hb hr (runs_ok hn hs) (runs_apart hn.1 hs) (by omega) ?_ (keys3_sorted _ _) ?_ (by simp [keys3])
  · rw [puts_runs hs hh]; simp [keys3]
  · intro x; rw [puts_runs hs hh]

/-- the hours below k that have this coil -/
def cnt (c s k : Nat) : Nat := if c = 0 then min k s else if c = 1 then k - min k s else 0

theorem cnt_zero (c s : Nat) : cnt c s 0 = 0 := by unfold cnt; split <;> (try split) <;> omega
theorem cnt_le (c s k : Nat) : cnt c s k ≤ k := by unfold cnt; split <;> (try split) <;> omega
theorem cnt_yes {c s k : Nat} (h : coilAt s k = 7 + c) : cnt c s (k + 1) = cnt c s k + 1 := by
  unfold coilAt at h
  unfold cnt
  split at h <;> split <;> (try split) <;> omega
theorem cnt_no {c s k : Nat} (h : coilAt s k ≠ 7 + c) (_hc : c ≤ 2) : cnt c s (k + 1) = cnt c s k := by
  unfold coilAt at h
  unfold cnt
  split at h <;> split <;> (try split) <;> omega
theorem cnt_row {c s n : Nat} (hc : c ≤ 2) (hs : s ≤ n) : (#[.int .i64 s, .int .i64 ((n : Int) - s), .int .i64 0] : Array Value)[c]? = some (.int .i64 (cnt c s n)) := by
  have h : c = 0 ∨ c = 1 ∨ c = 2 := by omega
  rcases h with rfl | rfl | rfl
  · have e : cnt 0 s n = s := by unfold cnt; simp; omega
    rw [e]; rfl
  · have e : ((cnt 1 s n : Nat) : Int) = (n : Int) - s := by unfold cnt; simp; omega
    rw [e]; rfl
  · have e : cnt 2 s n = 0 := by unfold cnt; simp
    rw [e]; rfl

/-- the cells of a row of runs -/
def news (rs : List Run) : List Value := rs.flatMap fun r => r.cells.toList

theorem news_cons (r : Run) (rs : List Run) : news (r :: rs) = r.cells.toList ++ news rs := by unfold news; rw [List.flatMap_cons]

theorem news_length (rs : List Run) : (news rs).length = rs.length * 5 := by
  induction rs with
  | nil => rfl
  | cons r rs ih => rw [news_cons, List.length_append, ih]; simp [Run.cells]; omega

theorem news_get : ∀ (rs : List Run) (t : Nat), t < rs.length * 5 → (news rs)[t]? = (rs[t / 5]?).bind fun r => r.cells[t % 5]? := by
  intro rs
  induction rs with
  | nil => intro t ht; simp at ht
  | cons r rs ih =>
    intro t ht
    rw [news_cons]
    by_cases h : t < 5
    · rw [List.getElem?_append_left (by simpa [Run.cells] using h), show t / 5 = 0 by omega, show t % 5 = t by omega]
      simp
    · rw [List.getElem?_append_right (by simp [Run.cells]; omega)]
      have e : r.cells.toList.length = 5 := rfl
      rw [e, ih (t - 5) (by simp at ht; omega), show t / 5 = (t - 5) / 5 + 1 by omega, show (t - 5) % 5 = t % 5 by omega]
      rfl

theorem news_one (rs : List Run) : ∀ u ∈ news rs, u.oneCell' = true := by
  intro u hu
  obtain ⟨r, _, hu⟩ := List.mem_flatMap.1 hu
  simp [Run.cells] at hu
  rcases hu with rfl | rfl | rfl | rfl | rfl <;> rfl

theorem runs_lie {w : World} {b : Nat} {rs : List Run} (h : ∀ t u, (news rs)[t]? = some u → w.cell? ⟨b, t, none⟩ = some u) : RunsAt w b rs := by
  intro i hi
  have key : ∀ k, k < 5 → ∀ u, rs[i].cells[k]? = some u → w.cell? ⟨b, i * 5 + k, none⟩ = some u := by
    intro k hk u hu
    refine h _ _ ?_
    rw [news_get rs _ (by omega), show (i * 5 + k) / 5 = i by omega, show (i * 5 + k) % 5 = k by omega, List.getElem?_eq_getElem hi]
    exact hu
  exact ⟨key 0 (by omega) _ rfl, key 1 (by omega) _ rfl, key 2 (by omega) _ rfl, key 3 (by omega) _ rfl, key 4 (by omega) _ rfl⟩

theorem add_plain (b t : Nat) : (⟨b, 0, none⟩ : Addr).add t = ⟨b, t, none⟩ := by unfold Addr.add; split <;> simp_all

theorem RunsAt.news {w : World} {b : Nat} {rs : List Run} (h : RunsAt w b rs) : ∀ t u, (news rs)[t]? = some u → w.cell? ((⟨b, 0, none⟩ : Addr).add t) = some u := by
  intro t u hu
  rw [add_plain]
  have hl : t < rs.length * 5 := by
    rw [← news_length]
    exact (List.getElem?_eq_some_iff.1 hu).1
  have hd : t / 5 < rs.length := by omega
  rw [news_get rs t hl, List.getElem?_eq_getElem hd] at hu
  obtain ⟨h0, h1, h2, h3, h4⟩ := h _ hd
  have hm : t % 5 = 0 ∨ t % 5 = 1 ∨ t % 5 = 2 ∨ t % 5 = 3 ∨ t % 5 = 4 := by omega
  have ht : t = t / 5 * 5 + t % 5 := by omega
  generalize t / 5 = q at *
  rcases hm with e | e | e | e | e <;> rw [e] at hu ht <;> rw [ht] <;> simp [Run.cells] at hu <;> rw [← hu] <;> assumption

theorem owns_runs {w : World} {base n g cap : Nat} {rs : List Run} (h : w.ownsRow base 26 5 (.slice (some ⟨g, 0, none⟩) n cap) n (news rs)) : RunsAt w g rs ∧ n ≤ cap ∧ cap ≤ 9223372036854775807 ∧ base ≤ g ∧ g < w.heap.size := by
  refine ⟨runs_lie fun t u hu => ?_, ?_⟩
  · have := h.cells (g := g) rfl t u hu
    rwa [add_plain] at this
  · rcases h.2 with ⟨e, _⟩ | ⟨g', cap', cur, e, hb, hg, h1, h2, _⟩
    · cases e
    · cases e
      exact ⟨h1, h2, hb, (Array.getElem?_eq_some_iff.1 hg).1⟩

theorem owns_empty {w : World} {base B : Nat} (h : w.heap[B]? = some (.cells #[] 26 (0, 0))) (hb : base ≤ B) : w.ownsRow base 26 5 (.slice (some ⟨B, 0, none⟩) 0 0) 0 (news []) :=
  ⟨rfl, .inr ⟨B, 0, #[], rfl, hb, h, Nat.le_refl _, by unfold maxLen; omega, rfl, rfl⟩⟩

theorem info26 : (Try.prog.info? 26).map (fun i => (i.zero, i.size, i.bytes)) = some (some (.agg #[.int .i64 0, .int .i64 0, .int .i64 0, .int .i64 0, .int .i64 0]), 5, 40) := by kernel_rfl

theorem size3' (w : World) : (sizeOf 3).run Try.prog w = .ok 1 w := by kernel_rfl
theorem agg3' (w : World) : (isAgg 3).run Try.prog w = .ok false w := by kernel_rfl
theorem ix36 {T : Array Value} {k : Nat} {v : Value} (hk : k < 3) (hv : T[k]? = some v) (w : World) : (Instr.index 36 (.agg T) (.int .i64 k)).run Try.prog w = .ok v w := by
  have h1 : (0 : Int) ≤ (k : Int) ∧ (k : Int) < ((3 : Nat) : Int) := by omega
  have h0 : (asIntOf (.int .i64 k)).run Try.prog w = .ok (.i64, (k : Int)) w := rfl
  unfold Instr.index part
  simp only [Sem.run_bind, run_underlying Try.underlying36, h0, Result.andThen_ok, if_pos h1, size3', agg3', Sem.run_pure, Int.toNat_natCast, Nat.mul_one, Bool.false_eq_true, if_false, hv]

end Go.Proofs.Ytkdfecmbhijgnaa
