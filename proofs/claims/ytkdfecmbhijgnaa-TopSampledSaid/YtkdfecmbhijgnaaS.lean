/- slices.SortFunc of the kit's shelf, laid at this program's numbers (written by a program out of the text that the kit's own laying command makes). -/
import Derived.Test.YtkdfecmbhijgnaaProg
import Derived.Shelf.SlSortCmp.WholeK
import Derived.Test.YtkdfecmbhijgnaaN
namespace Go.Proofs.Ytkdfecmbhijgnaa
open Go.Shelf Go.RowKit Go.Sort Go.Lib

def sortC_ren : Go.Shelf.Ren := ⟨fun | 6 => 24 | 15 => 36 | 14 => 35 | 28 => 55 | 29 => 56 | 20 => 47 | 21 => 48 | 22 => 49 | 23 => 50 | 24 => 51 | 25 => 52 | 26 => 53 | 27 => 54 | 46 => 60 | 47 => 61 | 48 => 62 | 49 => 63 | 50 => 64 | 57 => 66 | n => n, fun | 22 => 27 | 24 => 35 | 25 => 80 | 3 => 3 | 39 => 88 | 0 => 0 | 53 => 107 | 55 => 109 | 4 => 4 | 46 => 100 | 45 => 99 | 50 => 104 | 5 => 5 | 9 => 9 | 66 => 114 | 70 => 118 | 76 => 121 | 77 => 73 | n => n, fun | n => n⟩
theorem sortC : SlLaysF0.n6 Try.prog sortC_ren := {
  mixed := by kernel_rfl,
  f6 := ⟨Try.f24.name, by decide, Try.func24.trans (congrArg some (by kernel_rfl))⟩,
  f14 := ⟨Try.f35.name, by decide, Try.func35.trans (congrArg some (by kernel_rfl))⟩,
  f15 := Try.func36.trans (congrArg some (by kernel_rfl)),
  f20 := ⟨Try.f47.name, by decide, Try.func47.trans (congrArg some (by kernel_rfl))⟩,
  f21 := ⟨Try.f48.name, by decide, Try.func48.trans (congrArg some (by kernel_rfl))⟩,
  f22 := ⟨Try.f49.name, by decide, Try.func49.trans (congrArg some (by kernel_rfl))⟩,
  f23 := ⟨Try.f50.name, by decide, Try.func50.trans (congrArg some (by kernel_rfl))⟩,
  f24 := ⟨Try.f51.name, by decide, Try.func51.trans (congrArg some (by kernel_rfl))⟩,
  f25 := ⟨Try.f52.name, by decide, Try.func52.trans (congrArg some (by kernel_rfl))⟩,
  f26 := ⟨Try.f53.name, by decide, Try.func53.trans (congrArg some (by kernel_rfl))⟩,
  f27 := ⟨Try.f54.name, by decide, Try.func54.trans (congrArg some (by kernel_rfl))⟩,
  f28 := Try.func55.trans (congrArg some (by kernel_rfl)),
  f29 := Try.func56.trans (congrArg some (by kernel_rfl)),
  f46 := ⟨Try.f60.name, by decide, Try.func60.trans (congrArg some (by kernel_rfl))⟩,
  f47 := Try.func61.trans (congrArg some (by kernel_rfl)),
  f48 := Try.func62.trans (congrArg some (by kernel_rfl)),
  f49 := ⟨Try.f63.name, by decide, Try.func63.trans (congrArg some (by kernel_rfl))⟩,
  f50 := ⟨Try.f64.name, by decide, Try.func64.trans (congrArg some (by kernel_rfl))⟩,
  f57 := ⟨Try.f66.name, by decide, Try.func66.trans (congrArg some (by kernel_rfl))⟩,
  t0 := Try.underlying0,
  a0 := Try.isAgg0,
  z0 := Try.sizeOf0,
  v0 := Try.zeroValue0,
  t3 := Try.underlying3,
  a3 := Try.isAgg3,
  z3 := Try.sizeOf3,
  v3 := Try.zeroValue3,
  t4 := Try.underlying4,
  a4 := Try.isAgg4,
  z4 := Try.sizeOf4,
  v4 := Try.zeroValue4,
  t5 := Try.underlying5,
  a5 := Try.isAgg5,
  z5 := Try.sizeOf5,
  v5 := Try.zeroValue5,
  t9 := Try.underlying9,
  a9 := Try.isAgg9,
  z9 := Try.sizeOf9,
  v9 := Try.zeroValue9,
  t22 := Try.underlying27,
  a22 := Try.isAgg27,
  z22 := Try.sizeOf27,
  v22 := Try.zeroValue27,
  t25 := Try.underlying80,
  a25 := Try.isAgg80,
  z25 := Try.sizeOf80,
  v25 := Try.zeroValue80,
  t39 := Try.underlying88,
  a39 := Try.isAgg88,
  z39 := Try.sizeOf88,
  v39 := Try.zeroValue88,
  t45 := Try.underlying99,
  a45 := Try.isAgg99,
  z45 := Try.sizeOf99,
  v45 := Try.zeroValue99,
  t46 := Try.underlying100,
  a46 := Try.isAgg100,
  z46 := Try.sizeOf100,
  v46 := Try.zeroValue100,
  t50 := Try.underlying104,
  a50 := Try.isAgg104,
  z50 := Try.sizeOf104,
  v50 := Try.zeroValue104,
  t53 := Try.underlying107,
  a53 := Try.isAgg107,
  z53 := Try.sizeOf107,
  v53 := Try.zeroValue107,
  t55 := Try.underlying109,
  a55 := Try.isAgg109,
  z55 := Try.sizeOf109,
  v55 := Try.zeroValue109,
  t66 := Try.underlying114,
  a66 := Try.isAgg114,
  z66 := Try.sizeOf114,
  v66 := Try.zeroValue114,
  t70 := Try.underlying118,
  a70 := Try.isAgg118,
  z70 := Try.sizeOf118,
  v70 := Try.zeroValue118,
  t76 := Try.underlying121,
  a76 := Try.isAgg121,
  z76 := Try.sizeOf121,
  v76 := Try.zeroValue121,
  t77 := Try.underlying73,
  a77 := Try.isAgg73,
  z77 := Try.sizeOf73,
  v77 := Try.zeroValue73 }


theorem ltOf_cmpK (x y : Key) : ltOf cmpK x y = decide (ltK x y) := by
  unfold ltOf
  by_cases h : ltK x y
  · rw [decide_eq_true h, decide_eq_true ((cmpK_lt x y).2 h)]
  · rw [decide_eq_false h, decide_eq_false (fun g => h ((cmpK_lt x y).1 g))]

theorem swoK : SWO (ltOf cmpK) where
  irrefl x := by rw [ltOf_cmpK]; exact decide_eq_false (ltK_irrefl x)
  trans x y z h1 h2 := by
    rw [ltOf_cmpK, decide_eq_true_eq] at *
    exact ltK_trans h1 h2
  ntrans x y z h1 h2 := by
    rw [ltOf_cmpK, decide_eq_false_iff_not] at *
    intro h
    unfold ltK at *
    omega

theorem three_grow (W : World) (A B C : Obj) : ((W.alloc A).alloc B).drew.alloc C = grow (W.drewN 1) #[A, B, C] := by
  rw [alloc_eq_grow, alloc_eq_grow W, alloc_eq_grow, drew_grow, drew_grow, grow_grow, grow_grow]; rfl

theorem cmpLays (blk off size : Nat) (w : World) : CmpLays Try.prog 25 #[] Key.cells 3 cmpK blk off size w := fun _ _ _ _ x y =>
  (cmpK_any x y _).mono fun _ _ ⟨h1, h2⟩ => ⟨h1, 1, _, h2.trans (three_grow _ _ _ _)⟩

theorem isAgg35 (w : World) : (isAgg 35).run Try.prog w = .ok true w := by kernel_rfl
theorem sizeOf35 (w : World) : (Go.sizeOf 35).run Try.prog w = .ok 3 w := by kernel_rfl

/-- slices.SortFunc at causes: a permutation, sorted -/
theorem sort_any (blk cap : Nat) (d : Array Key) (w : World) (hH : HoldsK Key.cells 3 w blk 0 d) (hblk : blk < w.heap.size) (hsz : d.size < 1000000) :
    Calls Try.prog 24 #[.slice (some ⟨blk, 0, none⟩) d.size cap, .func (.func 25) #[] #[]] w fun e w' =>
      e = .returned (.tuple #[]) ∧ ∃ d' n os, PermIn 0 d.size d d' ∧ SortedIn (ltOf cmpK) 0 d.size d' ∧ w' = sortWorldK Key.cells 3 w blk 0 n d' os :=
  AnyQ.slices_SortFunc sortC 3 isAgg35 sizeOf35 Key.cells (fun _ => rfl) (fun x v hv => by simp [Key.cells] at hv; rcases hv with rfl | rfl | rfl <;> rfl) cmpK swoK 25 #[] blk 0 cap d w (enters_of Try.func25 (by kernel_rfl) rfl) (cmpLays blk 0 d.size w) hH hblk (by omega)

end Go.Proofs.Ytkdfecmbhijgnaa
