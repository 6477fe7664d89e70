/-
  A key read back is a cause, and two causes with one key are equal; how a list of causes is gathered from a map.
-/
import Derived.Test.YtkdfecmbhijgnaaS
import Derived.Test.YtkdfecmbhijgnaaL
import Derived.Maps.RangeWalk
import Derived.Sort.OwnSorted
import Derived.Deep.AppendLies
import Derived.Maps.OwnSet
namespace Go.Proofs.Ytkdfecmbhijgnaa
open Go.RowKit Go.Maps Go.Sort

def encK (x : Key) : Value := .agg #[.int .i64 x.k, .int .i64 x.m, .int .i64 x.n]

theorem lit_inv {t : TypeId} (hu : Try.prog.underlying t = some (.int .i64)) {d : Nat} {a : Value} {ls : List Lit} (h : Try.prog.keyLits (d + 1) t [a] = some ls) :
    ∃ n, a = .int .i64 n ∧ (Lit.int .i64 n).wf = true ∧ ls = [.int .i64 n] := by
  unfold Program.keyLits at h
  rw [hu] at h
  cases a <;> simp at h
  obtain ⟨⟨rfl, hw⟩, rfl⟩ := h
  exact ⟨_, rfl, hw, rfl⟩

theorem lits_inv {d : Nat} {a b c : Value} {ls : List Lit} (h : Try.prog.keyLits (d + 2) 35 [a, b, c] = some ls) :
    ∃ x : Key, a = .int .i64 x.k ∧ b = .int .i64 x.m ∧ c = .int .i64 x.n ∧ x.wf ∧ ls = [.int .i64 x.k, .int .i64 x.m, .int .i64 x.n] := by
  unfold Program.keyLits at h
  simp only [Try.underlying35] at h
  simp [cells35, cells33, cells3, -Option.bind_eq_bind] at h
  cases ha : Try.prog.keyLits (d + 1) 33 [a] with
  | none => rw [ha] at h; simp at h
  | some la =>
    cases hb : Try.prog.keyLits (d + 1) 3 [b] with
    | none => rw [ha, hb] at h; simp at h
    | some lb =>
      cases hc : Try.prog.keyLits (d + 1) 3 [c] with
      | none => rw [ha, hb, hc] at h; simp at h
      | some lc =>
        rw [ha, hb, hc] at h
        obtain ⟨x, rfl, h1, rfl⟩ := lit_inv Try.underlying33 ha
        obtain ⟨y, rfl, h2, rfl⟩ := lit_inv Try.underlying3 hb
        obtain ⟨z, rfl, h3, rfl⟩ := lit_inv Try.underlying3 hc
        refine ⟨⟨x, y, z⟩, rfl, rfl, rfl, ⟨h1, h2, h3⟩, ?_⟩
        simp at h
        exact h.symm

theorem three_cells {cs : Array Value} (h : cs.size = 3) : ∃ a b c, cs = #[a, b, c] := by
  obtain ⟨l⟩ := cs
  match l, h with
  | [a, b, c], _ => exact ⟨a, b, c, rfl⟩

theorem keyOf_inv {v : Value} {l : Lit} (h : keyOf Try.prog 35 v = some l) : ∃ x : Key, v = encK x ∧ l = kl x ∧ x.wf := by
  have h1 : 1 ≤ Try.prog.types.size := of_decide_eq_true (by kernel_rfl)
  obtain ⟨d, hs⟩ : ∃ d, Try.prog.types.size + 1 = d + 2 := ⟨Try.prog.types.size - 1, by omega⟩
  unfold keyOf at h
  simp only [Try.underlying35] at h
  simp only [isKey35, hs] at h
  cases hf : v.formed Try.prog 35 with
  | false => rw [hf] at h; simp at h
  | true =>
    rw [hf] at h
    cases v <;> simp only [Value.formed, Try.underlying35] at hf
    case agg cs =>
      have hc : cs.size = 3 := by
        have := eq_of_beq hf
        rw [this]; exact cells35
      obtain ⟨a, b, c, rfl⟩ := three_cells hc
      simp only [Value.cells, Bool.and_self, if_true, Option.map_eq_some_iff] at h
      obtain ⟨ls, h3, h4⟩ := h
      obtain ⟨x, rfl, rfl, rfl, hw, rfl⟩ := lits_inv h3
      exact ⟨x, rfl, h4.symm, hw⟩
    all_goals cases hf

theorem kl_inj {x y : Key} (hx : x.wf) (hy : y.wf) (h : kl x = kl y) : x = y := by
  have h1 := keyOf_key x hx
  have h2 := keyOf_key y hy
  rw [h] at h1
  have := mlaw.inj h1 h2
  simp at this
  exact key_eq this.1 this.2.1 this.2.2


theorem kl_key (x : Key) : WideAt.IsKeyLit (kl x) := trivial

/-- what has been collected: no key twice; a key is on the list just where the map has it and it is no longer to come -/
structure Coll (D : DataW Unit) (left : Lit → Bool) (L : List Key) : Prop where
  nodup : L.Nodup
  wf : ∀ x ∈ L, x.wf
  mem : ∀ x : Key, x.wf → (x ∈ L ↔ Maps.has D (kl x) = true ∧ left (kl x) = false)

theorem Coll.start (D : DataW Unit) : Coll D (Maps.has D) [] :=
  ⟨List.nodup_nil, by simp, fun x _ => by cases Maps.has D (kl x) <;> simp⟩

theorem Coll.step {D : DataW Unit} {left : Lit → Bool} {L : List Key} (h : Coll D left L) {x : Key} (hx : x.wf) (hl : left (kl x) = true) (hd : Maps.has D (kl x) = true) :
    Coll D (fun z => left z && !z.sameKey (kl x)) (L ++ [x]) := by
  have hn : x ∉ L := fun hm => by have := ((h.mem x hx).1 hm).2; rw [hl] at this; cases this
  refine ⟨?_, ?_, fun y hy => ?_⟩
  · rw [List.nodup_append]
    refine ⟨h.nodup, by simp, fun a ha b hb => ?_⟩
    have : b = x := by simpa using hb
    subst this
    intro e; subst e; exact hn ha
  · intro y hy
    rcases List.mem_append.1 hy with hy | hy
    · exact h.wf y hy
    · have : y = x := by simpa using hy
      subst this; exact hx
  · rw [List.mem_append, List.mem_singleton, h.mem y hy]
    by_cases e : y = x
    · subst e
      have := WideAt.sameKey_self (kl_key y)
      simp [hd, this]
    · have hne : kl y ≠ kl x := fun g => e (kl_inj hy hx g)
      have := sameKey_ne hne
      simp [e, this]

theorem has_set {ks : List Key} {x : Key} (hx : x.wf) (hk : ∀ y ∈ ks, y.wf) : Maps.has (setOf yes (ks.map kl)) (kl x) = true ↔ x ∈ ks := by
  rw [has_setOf yes (kl x) (ks.map kl) (fun l hl => by obtain ⟨y, _, rfl⟩ := List.mem_map.1 hl; exact kl_key y), List.any_eq_true]
  constructor
  · rintro ⟨l, hl, hs⟩
    obtain ⟨y, hy, rfl⟩ := List.mem_map.1 hl
    by_cases e : y = x
    · exact e ▸ hy
    · have hne : kl y ≠ kl x := fun g => e (kl_inj (hk y hy) hx g)
      rw [sameKey_ne hne] at hs
      cases hs
  · intro h
    exact ⟨kl x, List.mem_map.2 ⟨x, h, rfl⟩, WideAt.sameKey_self (kl_key x)⟩

theorem Coll.perm {left : Lit → Bool} {L ks ks' : List Key} (hk : ∀ y ∈ ks, y.wf) (h : Coll (setOf yes (ks.map kl)) left L) (hl : ∀ l, left l = false) (hs : ks'.Nodup) (he : ∀ x, x ∈ ks ↔ x ∈ ks') : L.Perm ks' := by
  rw [List.perm_iff_count]
  intro a
  have hm : a ∈ L ↔ a ∈ ks' := by
    constructor
    · intro ha
      have hw := h.wf a ha
      exact (he a).1 ((has_set hw hk).1 ((h.mem a hw).1 ha).1)
    · intro ha
      have hb := (he a).2 ha
      have hw := hk a hb
      exact (h.mem a hw).2 ⟨(has_set hw hk).2 hb, hl _⟩
  rw [List.Nodup.count h.nodup, List.Nodup.count hs]
  by_cases e : a ∈ L
  · rw [if_pos e, if_pos (hm.1 e)]
  · rw [if_neg e, if_neg (fun g => e (hm.2 g))]

end Go.Proofs.Ytkdfecmbhijgnaa
