/-
  mill.causes puts into its map the causes of one lot, for runs and a lot within their bounds.
-/
import Derived.Test.YtkdfecmbhijgnaaK
import Derived.Test.YtkdfecmbhijgnaaJ
import Derived.Maps.AppendAt
namespace Go.Proofs.Ytkdfecmbhijgnaa
open Go.RowKit Go.Maps

/-- how an element of the map reads -/
noncomputable def rB : Value → Option (DataW Unit × List MemPlace) := plainElem Try.prog 4
def yes : DataW Unit := .lit (.bool true)
theorem rB_true : rB (.bool true) = some (yes, []) := plainElem_bool Try.underlying4 true

/-- what shop.causes stores for one run -/
def hoursOf (m f : Int) (n : Nat) : List Key := (List.range n).map fun i : Nat => ⟨3, m, f + (i : Int)⟩
def putsOf (lm lf lt : Int) (r : Run) : List Key :=
  if r.m = lm ∧ max r.f lf ≤ min r.t lt then ⟨1, 0, r.c⟩ :: ⟨2, 0, r.d⟩ :: hoursOf r.m (max r.f lf) (min r.t lt - max r.f lf + 1).toNat else []
def puts (rs : List Run) (lm lf lt : Int) : List Key := rs.flatMap (putsOf lm lf lt)

theorem keyOf_mk (k m n : Int) (h : (Key.mk k m n).wf) : keyOf Try.prog 35 (.agg #[.int .i64 k, .int .i64 m, .int .i64 n]) = some (kl ⟨k, m, n⟩) := keyOf_key ⟨k, m, n⟩ h

/-- block B is a map that holds these keys -/
def SetAt (w : World) (B : Nat) (ks : List Key) : Prop := w.ownsMap Try.prog 35 rB B ks.length (setOf yes (ks.map kl))

theorem SetAt.below {w w' : World} {B : Nat} {ks : List Key} (h : SetAt w B ks) (hb : Below w.heap.size w w') : SetAt w' B ks := by
  have hlt := h.lt
  obtain ⟨es, clock, h1, h2⟩ := h
  exact ⟨es, clock, (hb.block B hlt).trans h1, h2⟩

theorem SetAt.snoc {w : World} {B : Nat} {ks : List Key} {x : Key} (h : w.ownsMap Try.prog 35 rB B (ks.length + 1) ((setOf yes (ks.map kl)).put (kl x) yes)) : SetAt w B (ks ++ [x]) := by
  unfold SetAt
  rw [List.map_append, List.map_cons, List.map_nil, setOf_snoc, List.length_append, List.length_singleton]
  exact h

theorem hoursOf_snoc (m f : Int) (n : Nat) : hoursOf m f (n + 1) = hoursOf m f n ++ [⟨3, m, f + n⟩] := by
  simp [hoursOf, List.range_succ]

/-- m[x] = true at the operation -/
theorem wpList_store_key {ops : Array Oper} {rest : List Oper} {o : Oper} {a : Act} {w : World} {Q : Exit → Act → World → Prop}
    (hg : o.guard = none) (m x v : Operand) (hop : o.op = Op.mapUpdate 47 m x v) (B : Nat) (ks : List Key) (hm : a.eval m = .map (some B)) (hv : a.eval v = .bool true) (hown : SetAt w B ks) (hn : ks.length ≤ 2000)
    (p q r : Int) (hx : a.eval x = .agg #[.int .i64 p, .int .i64 q, .int .i64 r]) (hw : (Lit.int .i64 p).wf = true ∧ (Lit.int .i64 q).wf = true ∧ (Lit.int .i64 r).wf = true)
    (hK : ∀ w', SetAt w' B (ks ++ [⟨p, q, r⟩]) → w.grownBy w' (some B) → wpList Try.prog ops Q rest (a.put o.dst undef) w') : wpList Try.prog ops Q (o :: rest) a w :=
  wpList_mapUpdate_own w hg m x v 47 hop 35 4 mlaw Try.underlying47 rB B ks.length _ hm hown (by unfold maxLen; omega) _ _ _ hx hv (keyOf_mk p q r hw) yes [] rB_true
    (fun w' h1 h2 => hK w' (SetAt.snoc h1) h2)


theorem hoursOf_length (m f : Int) (n : Nat) : (hoursOf m f n).length = n := by simp [hoursOf]

theorem Below.set {w wr w' : World} {B : Nat} (h : Below w.heap.size w wr) (hg : wr.grownBy w' (some B)) (hB : w.heap.size ≤ B) : Below w.heap.size w w' :=
  h.grown hg h.size (fun k hk => by cases hk; exact hB)

/-- the lot's box, laid first -/
structure Box3 (w : World) (x y z : Int) (wr : World) : Prop where
  c0 : wr.cell? ⟨w.heap.size, 0, none⟩ = some (.int .i64 x)
  c1 : wr.cell? ⟨w.heap.size, 1, none⟩ = some (.int .i64 y)
  c2 : wr.cell? ⟨w.heap.size, 2, none⟩ = some (.int .i64 z)
  below : Below w.heap.size w wr
  size : w.heap.size < wr.heap.size

theorem Box3.next {w W W' : World} {x y z : Int} (h : Box3 w x y z W) (hb : Below W.heap.size W W') : Box3 w x y z W' :=
  have l := h.size
  ⟨(hb.cell (p := ⟨w.heap.size, 0, none⟩) l).trans h.c0, (hb.cell (p := ⟨w.heap.size, 1, none⟩) l).trans h.c1, (hb.cell (p := ⟨w.heap.size, 2, none⟩) l).trans h.c2,
   h.below.trans (hb.mono h.below.size), Nat.lt_of_lt_of_le l hb.size⟩

theorem Box3.start (w : World) (x y z : Int) (T : TypeId) : Box3 w x y z (w.alloc (.cells #[.int .i64 x, .int .i64 y, .int .i64 z] T)) :=
  ⟨by simp, by simp, by simp, (Below.refl _ _).alloc (Nat.le_refl _) _, by simp⟩

theorem puts_snoc {rs : List Run} {k : Nat} (h : k < rs.length) (lm lf lt : Int) : puts (rs.take (k + 1)) lm lf lt = puts (rs.take k) lm lf lt ++ putsOf lm lf lt rs[k] := by
  unfold puts
  rw [List.take_succ_eq_append_getElem h, List.flatMap_append]
  simp

theorem puts_take_le (rs : List Run) (k : Nat) (lm lf lt : Int) : (puts (rs.take k) lm lf lt).length ≤ (puts rs lm lf lt).length := by
  have h : puts rs lm lf lt = puts (rs.take k) lm lf lt ++ puts (rs.drop k) lm lf lt := by
    unfold puts
    rw [← List.flatMap_append, List.take_append_drop]
  rw [h, List.length_append]
  omega

theorem hours_is (m f t c d f' t' F L : Int) (hF : max f f' = F) (hL : min t t' = L) (w : World) :
    Calls Try.prog 21 #[.agg #[.int .i64 m, .int .i64 f, .int .i64 t, .int .i64 c, .int .i64 d], .int .i64 m, .int .i64 f', .int .i64 t'] w fun e w' => e = .returned (.tuple #[.int .i64 F, .int .i64 L]) ∧ Below w.heap.size w w' := by
  subst hF hL; exact hours_yes m f t c d f' t' w

theorem Below.toGrown {w w' : World} (h : Below w.heap.size w w') (row : Option Nat) : w.grownBy w' row := ⟨h.os, h.tape, h.output, h.size, fun k hk _ => h.block k hk⟩

/-- the run's box, laid in the round; and what the map's stores leave of it -/
structure RunBox (w : World) (r : Run) (wr : World) : Prop where
  c0 : wr.cell? ⟨w.heap.size, 0, none⟩ = some (.int .i64 r.m)
  c3 : wr.cell? ⟨w.heap.size, 3, none⟩ = some (.int .i64 r.c)
  c4 : wr.cell? ⟨w.heap.size, 4, none⟩ = some (.int .i64 r.d)

theorem RunBox.start {w w1 : World} {r : Run} (h : Below (w.alloc (.cells #[.int .i64 r.m, .int .i64 r.f, .int .i64 r.t, .int .i64 r.c, .int .i64 r.d] 26)).heap.size (w.alloc (.cells #[.int .i64 r.m, .int .i64 r.f, .int .i64 r.t, .int .i64 r.c, .int .i64 r.d] 26)) w1) : RunBox w r w1 :=
  ⟨(h.cell (p := ⟨w.heap.size, 0, none⟩) (by simp)).trans (by simp), (h.cell (p := ⟨w.heap.size, 3, none⟩) (by simp)).trans (by simp), (h.cell (p := ⟨w.heap.size, 4, none⟩) (by simp)).trans (by simp)⟩

theorem RunBox.grown {w W W' : World} {r : Run} {B : Nat} (h : RunBox w r W) (hg : W.grownBy W' (some B)) (hB : w.heap.size ≠ B) : RunBox w r W' :=
  ⟨hg.cell h.c0 (by simpa using hB), hg.cell h.c3 (by simpa using hB), hg.cell h.c4 (by simpa using hB)⟩

def CausesPost (w : World) (ks : List Key) (e : Ending) (w' : World) : Prop := ∃ B, e = .returned (.tuple #[.map (some B), .int .i64 0]) ∧ SetAt w' B ks ∧ w.heap.size ≤ B ∧ Below w.heap.size w w'

set_option maxRecDepth 100000 in
set_option maxHeartbeats 1000000 in
theorem causes_any (rs : List Run) (b cap : Nat) (lm lf lt : Int) (w : World) (_hn : rs.length ≤ 60) (hc : rs.length ≤ cap) (hcap : cap ≤ 9223372036854775807) (hb : b < w.heap.size) (hr : RunsAt w b rs)
    (hok : ∀ i, (h : i < rs.length) → rs[i].ok) (hl : (0 ≤ lm ∧ lm ≤ 1000) ∧ 0 ≤ lf ∧ lf ≤ lt ∧ lt ≤ 100000) (hT : (puts rs lm lf lt).length ≤ 1000) :
    Calls Try.prog 9 #[.slice (some ⟨b, 0, none⟩) rs.length cap, .agg #[.int .i64 lm, .int .i64 lf, .int .i64 lt]] w (CausesPost w (puts rs lm lf lt)) := by
  have HR := Lib.hid hr
  have HO := Lib.hid hok
  have H1 := Lib.hid hl.1
  have H2 := Lib.hid hl.2
  have HT := Lib.hid hT
  clear hr hok hl hT
  have hmm := @run_makeMap Try.prog
  have h0 := Box3.start w lm lf lt 32
  go_enter Try.func9, Try.ntmps9
  go_wp2_with (first
    | (go_at_call 22; refine (isNumber1 lm _ _ H1.out ?_ ?_).mono ?_; simp; simp; rintro e w1 ⟨rfl, hb1⟩; have h1 := h0.next (laid_below hb1); clear h0 hb1; have q0 := h1.c0; have q1 := h1.c1; have q2 := h1.c2)
    | (go_at_call 23; refine (areHours_yes lf lt H2.out _).mono ?_; rintro e w2 ⟨rfl, hb2⟩; have h2 := h1.next hb2; clear h1 hb2 q0 q1 q2))
  have HB := Lib.hid h2
  clear h2
  go_loopw [28] (fun i wr => ∃ k : Nat, k ≤ rs.length ∧ i = .int .i64 k ∧ SetAt wr w2.heap.size (puts (rs.take k) lm lf lt) ∧ Below w2.heap.size w2 wr) (fun i _ => rs.length - (intOf i).toNat)
  case atStart => exact ⟨0, Nat.zero_le _, rfl, World.ownsMap_made _ _ _ _, (Below.refl _ _).alloc (Nat.le_refl _) _⟩
  case round =>
    obtain ⟨k, hk, rfl, hset, hbw⟩ := hrel
    obtain ⟨wo, rfl⟩ : ∃ wo : World, wo = wr := ⟨_, rfl⟩
    have hBlt : w2.heap.size < wo.heap.size := hset.lt
    have hbx := HB.out.next hbw
    have hall := hbx.below
    by_cases hlt : k < rs.length
    · obtain ⟨c0, c1, c2, c3, c4⟩ := HR.out.kept hb hall k hlt
      have hr := HO.out k hlt
      have hsn := Lib.hid (puts_snoc hlt lm lf lt)
      have hle := puts_take_le rs (k + 1) lm lf lt
      generalize rs[k] = r at *
      obtain ⟨m, f, t, c, d⟩ := r
      have q0 := hbx.c0
      have q1 := hbx.c1
      have q2 := hbx.c2
      have hws := hbx.size
      have HSET := Lib.hid hset
      have HBW := Lib.hid hbw
      have HOK := Lib.hid hr
      clear hset hbw hbx hall hr
      by_cases hm : m = lm
      · subst hm
        generalize hF : max f lf = F at *
        generalize hL : min t lt = L at *
        have HF := Lib.hid hF
        have HL := Lib.hid hL
        clear hF hL
        by_cases hFL : F ≤ L
        · have e0 : putsOf m lf lt ⟨m, f, t, c, d⟩ = [⟨1, 0, c⟩, ⟨2, 0, d⟩] ++ hoursOf m F (L - F + 1).toNat := by
            unfold putsOf
            rw [HF.out, HL.out, if_pos ⟨rfl, hFL⟩]; rfl
          have hlen : (puts (rs.take k) m lf lt).length + (2 + (L - F + 1).toNat) ≤ 1000 := by
            have := HT.out
            rw [hsn.out, e0, List.length_append, List.length_append, hoursOf_length] at hle
            simp only [List.length_cons, List.length_nil] at hle
            omega
          have E0 := Lib.hid e0
          clear e0 hle
          have hc1 : 0 ≤ c ∧ c ≤ 1000 := HOK.out.1.2.1
          have hd1 : 0 ≤ d ∧ d ≤ 1000 := HOK.out.1.2.2
          have ht1 : 0 ≤ f ∧ f ≤ t ∧ t ≤ 100000 := HOK.out.2
          have hF0 : 0 ≤ F := by have := HF.out; have := H2.out; omega
          have hL0 : L ≤ 100000 := by have := HL.out; have := H2.out; omega
          clear ht1
          go_wp2_with (first
            | (go_at_call 21; refine (hours_is _ _ _ _ _ _ _ F L HF.out HL.out _).mono ?_; rintro e w3 ⟨rfl, hb3⟩; have hset := HSET.out.below (laid_below hb3); have hbox := RunBox.start (r := ⟨m, f, t, c, d⟩) hb3; have d0 := hbox.c0; have d3 := hbox.c3; have d4 := hbox.c4; simp only [] at d0 d3 d4; have hgr := World.grownBy.refl w3 (some w2.heap.size))
            | (at_mapUpdate; refine wpList_store_key rfl _ _ _ rfl w2.heap.size _ rfl rfl hset ?_ _ _ _ rfl ?_ ?_; ((try simp only [List.length_append, List.length_cons, List.length_nil]); omega); exact ⟨WalkArith.wf_i64 (by omega), WalkArith.wf_i64 (by omega), WalkArith.wf_i64 (by omega)⟩; intro w4 hset4 hg4; clear hset d0 d3 d4; have hset := hset4; have hbox := hbox.grown hg4 (by omega); have d0 := hbox.c0; have d3 := hbox.c3; have d4 := hbox.c4; have hgr := hgr.trans hg4; clear hset4 hg4))
          have HB3 := Lib.hid ((HBW.out.trans ((laid_below hb3).mono HBW.out.size)).grown hgr (Nat.le_trans (Nat.le_of_lt hBlt) (Nat.le_trans (by simp) hb3.size)) (fun j hj => by cases hj; exact Nat.le_refl _))
          clear hgr hb3 c0 c1 c2 c3 c4 q0 q1 q2 d0 d3 d4
          generalize hcnt : (L - F + 1).toNat = cnt at *
          have hc1' : (cnt : Int) = L - F + 1 := by omega
          clear hcnt
          have HS4 := Lib.hid hset
          have HX4 := Lib.hid hbox
          have hl4 := hset.lt
          clear hset hbox
          go_loopw [11] (fun v wi => ∃ i : Nat, i ≤ cnt ∧ v = .int .i64 (F + i) ∧ SetAt wi w2.heap.size (puts (rs.take k) m lf lt ++ [⟨1, 0, c⟩] ++ [⟨2, 0, d⟩] ++ hoursOf m F i) ∧ RunBox wo ⟨m, f, t, c, d⟩ wi ∧ w4.grownBy wi (some w2.heap.size)) (fun v _ => (L + 1 - intOf v).toNat)
          case atStart => exact ⟨0, by omega, by go_num, by simpa [hoursOf] using HS4.out, HX4.out, World.grownBy.refl _ _⟩
          case round =>
            obtain ⟨i, hi, rfl, hset, hbox, hgr⟩ := hrel
            obtain ⟨wi, rfl⟩ : ∃ wi : World, wi = wr := ⟨_, rfl⟩
            by_cases hic : i < cnt
            · have d0 := hbox.c0
              simp only [] at d0
              have hle : F + (i : Int) ≤ L := by omega
              go_wp2_with (first
                | (at_mapUpdate; refine wpList_store_key rfl _ _ _ rfl w2.heap.size _ rfl rfl hset ?_ _ _ _ rfl ?_ ?_; ((try simp only [List.length_append, List.length_cons, List.length_nil, hoursOf_length]); omega); exact ⟨WalkArith.wf_i64 (by omega), WalkArith.wf_i64 (by have := H1.out; omega), WalkArith.wf_i64 (by omega)⟩; intro w7 hset7 hg7; have hbox7 := hbox.grown hg7 (by omega); have hgr7 := hgr.trans hg7; clear hg7 hset hbox hgr d0))
              go_roundw
              case rel => exact ⟨i + 1, by omega, by go_num, by rw [hoursOf_snoc, ← List.append_assoc]; exact hset7, hbox7, hgr7⟩
              case measure => simp [intOf]; omega
            · obtain rfl : i = cnt := by omega
              have HSi := Lib.hid hset
              have HBi := Lib.hid (HB3.out.grown hgr (Nat.le_of_lt hl4) (fun j hj => by cases hj; exact Nat.le_refl _))
              clear hset hbox hgr
              have hgt : L < F + (i : Int) := by omega
              go_wp2
              go_roundw
              case rel =>
                refine ⟨k + 1, by omega, by go_num, ?_, HBi.out⟩
                rw [hsn.out, E0.out]
                have := HSi.out
                rw [List.append_assoc, List.append_assoc] at this
                exact this
              case measure => simp [intOf]; omega
        · go_wp2_with (first | (go_at_call 21; refine (hours_is _ _ _ _ _ _ _ F L HF.out HL.out _).mono ?_; rintro e w3 ⟨rfl, hb3⟩; have hb4 := laid_below hb3; clear hb3))
          go_roundw
          case rel =>
            refine ⟨k + 1, by omega, by go_num, ?_, HBW.out.trans (hb4.mono HBW.out.size)⟩
            have e0 : putsOf m lf lt ⟨m, f, t, c, d⟩ = [] := by
              unfold putsOf
              rw [HF.out, HL.out, if_neg (fun h => by have := h.2; omega)]
            rw [hsn.out, e0, List.append_nil]
            exact HSET.out.below hb4
          case measure => simp [intOf]; omega
      · have HM := Lib.hid hm
        clear hm
        go_wp2_with (first | (go_at_call 21; refine (hours_no _ _ _ _ _ _ _ _ HM.out _).mono ?_; rintro e w3 ⟨rfl, hb3⟩; have hb4 := laid_below hb3; clear hb3))
        go_roundw
        case rel =>
          refine ⟨k + 1, by omega, by go_num, ?_, HBW.out.trans (hb4.mono HBW.out.size)⟩
          have e0 : putsOf lm lf lt ⟨m, f, t, c, d⟩ = [] := by
            unfold putsOf
            rw [if_neg (fun h => HM.out h.1)]
          rw [hsn.out, e0, List.append_nil]
          exact HSET.out.below hb4
        case measure => simp [intOf]; omega
    · obtain rfl : k = rs.length := by omega
      rw [List.take_length] at hset
      have hsl := hset.size_le
      have hml := fun ty => hset.len Try.underlying47 ty
      generalize Maps.size (setOf yes (List.map kl (puts rs lm lf lt))) = sz at *
      have hsz : (sz : Int) ≤ 1000 := by have := HT.out; omega
      clear hsl hlt
      have HS := Lib.hid hset
      have HW := Lib.hid hbw
      have HA := Lib.hid hall
      clear hset hbw hall hbx
      go_wp2
      go_ret2
      exact ⟨w2.heap.size, rfl, HS.out, HB.out.below.size, HA.out⟩

end Go.Proofs.Ytkdfecmbhijgnaa
