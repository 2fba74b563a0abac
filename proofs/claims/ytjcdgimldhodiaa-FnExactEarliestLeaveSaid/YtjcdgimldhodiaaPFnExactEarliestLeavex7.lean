/- Printed by this session's plus.py out of the translation, some functions' texts being this session's own. -/
import Derived.Test.YtjcdgimldhodiaaPFnExactEarliestLeavex0
import Derived.Test.YtjcdgimldhodiaaPFnExactEarliestLeavex4
import Derived.Test.YtjcdgimldhodiaaPFnExactEarliestLeavex6
namespace Go.Proofs.Ytjcdgimldhodiaa.PFnExactEarliestLeave
open Go.RowKit Go.Proofs.YtjcdgimldhodiaaW.PrintWords Go.Proofs.YtjcdgimldhodiaaW.PrintLast Go.Proofs.YtjcdgimldhodiaaW.PrintMore
attribute [local go_sem] max2_int min2_int max_two min_two max_three min_three max_four min_four   -- for this text's walks alone
set_option linter.unusedVariables false
set_option linter.unusedSimpArgs false

/-! ### impl_chainCode: function 56 -/
def impl_chainCode.l0 : Nat → Int → List Int → Int → Int → Option (Int)
  | 0, _, _, _, _ => none
  | k + 1, x0, x13, x14, x15 => if x15 < x14 then (if 0 ≤ x15 then (if x15 < (x13.length : Int) then ((impl_isChain.f x0 (rd x13 x15)).bind fun t150 => (if t150 = true then (impl_chainCode.l0 k x0 x13 x14 (wrap64 (x15 + 1))) else (some 2))) else (none)) else (none)) else (some 0)
def impl_chainCode.f (k : Nat) (a0 : Int) (l1 : List (S64)) (l2 : List Int) : Option (Int) := (impl_ValidCovers.f k a0 l1).bind fun t148 => (if t148 = true then (impl_chainCode.l0 k a0 l2 (l2.length : Int) 0) else (some 1))
theorem impl_chainCode.mono_l : ∀ k, (∀ y0 y1 y2 y3, LeO (impl_chainCode.l0 k y0 y1 y2 y3) (impl_chainCode.l0 (k + 1) y0 y1 y2 y3))
  | 0 => fun _ _ _ _ r h => by simp [impl_chainCode.l0] at h
  | k + 1 => by
    have ih0 := impl_chainCode.mono_l k
    · intro y0 y1 y2 y3
      unfold impl_chainCode.l0
      repeat' first
      | (with_reducible exact ih0 _ _ _ _)
      | (with_reducible exact impl_ValidCovers.mono _ _ _)
      | (with_reducible exact LeO.refl _)
      | (with_reducible exact LeO.none _)
      | (with_reducible refine LeO.ite ?_ ?_)
      | (with_reducible refine LeO.bind ?_ (fun _ => ?_))
      | exact ih0 _ _ _ _
      | exact impl_ValidCovers.mono _ _ _
      | exact LeO.none _
      | refine LeO.ite ?_ ?_
      | refine LeO.bind ?_ (fun _ => ?_)
theorem impl_chainCode.mono : ∀ a0 a1 a2 k, LeO (impl_chainCode.f k a0 a1 a2) (impl_chainCode.f (k + 1) a0 a1 a2) := by
  intro a0 a1 a2 k
  have ih0 := impl_chainCode.mono_l k
  unfold impl_chainCode.f
  repeat' first
      | (with_reducible exact ih0 _ _ _ _)
      | (with_reducible exact impl_ValidCovers.mono _ _ _)
      | (with_reducible exact LeO.refl _)
      | (with_reducible exact LeO.none _)
      | (with_reducible refine LeO.ite ?_ ?_)
      | (with_reducible refine LeO.bind ?_ (fun _ => ?_))
      | exact ih0 _ _ _ _
      | exact impl_ValidCovers.mono _ _ _
      | exact LeO.none _
      | refine LeO.ite ?_ ?_
      | refine LeO.bind ?_ (fun _ => ?_)
set_option maxHeartbeats 8000000 in
set_option maxRecDepth 100000 in
theorem impl_chainCode.calls (k : Nat) (a0 : Int) (A1 : Option Addr) (c1 : Nat) (l1 : List (S64)) (A2 : Option Addr) (c2 : Nat) (l2 : List Int) (r : Int) (w : World) (hr1 : Kd.C k64 w A1 l1.length l1) (hc1 : l1.length ≤ c1) (hr2 : Kd.C (Kd.int .i64) w A2 l2.length l2) (hc2 : l2.length ≤ c2) (h : impl_chainCode.f k a0 l1 l2 = some r) :
    Calls Try.prog 56 #[.int .i64 a0, .slice A1 l1.length c1, .slice A2 l2.length c2] w fun e w' => e = .returned (.int .i64 r) ∧ Below w.heap.size w w' := by
  have HR1 := Aside0.mk hr1
  have HC1 := Aside0.mk hc1
  clear hr1 hc1
  have HR2 := Aside0.mk hr2
  have HC2 := Aside0.mk hc2
  clear hr2 hc2
  have HB := Aside0.mk (Below.refl w.heap.size w)
  have H : ((impl_ValidCovers.f k a0 l1).bind fun t148 => (if t148 = true then (impl_chainCode.l0 k a0 l2 (l2.length : Int) 0) else (some 1))) = some r := h
  clear h
  replace H := Option.bind_eq_some_iff.mp H
  obtain ⟨t148, A40, H⟩ := H
  replace H : (if t148 = true then (impl_chainCode.l0 k a0 l2 (l2.length : Int) 0) else (some 1)) = some r := H
  have A4 := Aside0.mk A40
  clear A40
  by_cases c5 : t148 = true
  · subst c5
    have H1 : (impl_chainCode.l0 k a0 l2 (l2.length : Int) 0) = some r := by rw [if_pos rfl] at H; exact H
    clear H
    have H := H1
    clear H1
    have H' := Aside0.mk H
    clear H
    go_enter Try.func56, Try.ntmps56
    go_wp2_with (first | ((with_reducible refine gate_callee (f := 85) rfl ?_); refine goesL_ (some 11) rfl rfl Try.func85 (by kernel_rfl) rfl #[.int .i64 a0, .slice A1 l1.length c1] rfl (by (try simp only [List.map_toArray, List.map_cons, List.map_nil]); first | done | rfl | (simp only [List.length_drop, List.length_take]; rfl)) ?_; (with_reducible refine (impl_ValidCovers.calls k a0 _ _ l1 true _ ?side1 ?side2 A4.out).mono ?_); (case side1 => repeat (first | exact HR1.out | (with_reducible refine Kd.C_alloc ?_ _) | (with_reducible refine Kd.C_drewN ?_ _) | (with_reducible refine Kd.C_drew ?_))); (case side2 => exact HC1.out); rintro e w6 ⟨rfl, hb⟩; refine ⟨_, rfl, ?_⟩; have n0_ := Aside0.mk (below_step (by repeat (first | (with_reducible first | exact HB.out | apply below_alloc | apply pw_below_drewN | apply below_drew1) | exact HB.out)) hb); clear HB; have HB := n0_; clear n0_; (try clear hb); (try clear hb2); (try clear hk); (try clear hi)))
    go_loopg [15] k (fun kq v15 w' => ∃ (x15_1 : Int), v15 = .int .i64 x15_1 ∧ Aside0 (impl_chainCode.l0 kq a0 l2 (l2.length : Int) x15_1 = some r) ∧ Aside0 (kq ≤ k) ∧ Aside0 (Below w.heap.size w w'))
    case atStart => exact ⟨(0), (by first | rfl | (simp; done) | (simp [*]; done)), H', ⟨Nat.le_refl _⟩, ⟨by repeat (first | (with_reducible first | exact HB.out | apply below_alloc | apply pw_below_drewN | apply below_drew1) | exact HB.out)⟩⟩
    case round =>
      clear H'
      try clear c1
      try clear c2
      try clear p2
      try clear c5
      obtain ⟨x15_1, rfl, HA, HK1, HB⟩ := hrel
      cases gk with
      | zero => exact absurd HA.out (by simp [impl_chainCode.l0])
      | succ k1 =>
        have H := HA.out
        clear HA
        simp only [impl_chainCode.l0] at H
        by_cases c7 : x15_1 < (l2.length : Int)
        · rw [if_pos c7] at H
          have c7b0 : decide (x15_1 < (l2.length : Int)) = true := decide_eq_true c7
          clear c7
          by_cases c8 : 0 ≤ x15_1
          · rw [if_pos c8] at H
            have c8b0 : decide (0 ≤ x15_1) = true := decide_eq_true c8
            clear c8
            by_cases c9 : x15_1 < (l2.length : Int)
            · rw [if_pos c9] at H
              have c9b0 : decide (x15_1 < (l2.length : Int)) = true := decide_eq_true c9
              clear c9
              replace H := Option.bind_eq_some_iff.mp H
              obtain ⟨t150, A100, H⟩ := H
              replace H : (if t150 = true then (impl_chainCode.l0 k1 a0 l2 (l2.length : Int) (wrap64 (x15_1 + 1))) else (some 2)) = some r := H
              have A10 := Aside0.mk A100
              clear A100
              by_cases c11 : t150 = true
              · subst c11
                have H1 : (impl_chainCode.l0 k1 a0 l2 (l2.length : Int) (wrap64 (x15_1 + 1))) = some r := by rw [if_pos rfl] at H; exact H
                clear H
                have H := H1
                clear H1
                have H' := Aside0.mk H
                clear H
                have p149 : 0 ≤ (x15_1 : Int) := of_decide_eq_true (by first | (with_reducible assumption) | assumption)
                have q149 : x15_1 < (l2.length : Int) := of_decide_eq_true (by first | (with_reducible assumption) | assumption)
                obtain ⟨ad149, e149, hx149_0⟩ := Kd.at_int HR2.out x15_1 p149 q149
                cases e149
                replace hx149_0 := (HB.out.cell (World.block_lt_of_cell? w _ hx149_0)).trans hx149_0
                replace p149 := eq_true p149
                replace q149 := eq_true q149
                go_wp2_with (first | ((with_reducible refine gate_callee (f := 86) rfl ?_); refine goesL_ (some 21) rfl rfl Try.func86 (by kernel_rfl) rfl #[.int .i64 a0, .int .i64 (rd l2 x15_1)] rfl (by (try simp only [List.map_toArray, List.map_cons, List.map_nil]); first | done | rfl | (simp only [List.length_drop, List.length_take]; rfl)) ?_; (with_reducible refine (impl_isChain.calls a0 (rd l2 x15_1) true _ A10.out).mono ?_); rintro e w' ⟨rfl, ⟨nd, rfl⟩⟩; refine ⟨_, rfl, ?_⟩))
                go_roundg k1
                case measure => have := HK1.out; omega
                case rel => exact ⟨(wrap64 (x15_1 + 1)), (by first | rfl | (simp; done) | (simp [*]; done)), H', ⟨by have := HK1.out; omega⟩, ⟨by repeat (first | (with_reducible first | exact HB.out | apply below_alloc | apply pw_below_drewN | apply below_drew1) | exact HB.out)⟩⟩
              · replace c11 := Bool.eq_false_iff.mpr c11
                subst c11
                have H1 : (some 2) = some r := by rw [if_neg (show ¬ (false = true) by decide)] at H; exact H
                clear H
                have H := H1
                clear H1
                obtain rfl := Option.some.inj H
                have p149 : 0 ≤ (x15_1 : Int) := of_decide_eq_true (by first | (with_reducible assumption) | assumption)
                have q149 : x15_1 < (l2.length : Int) := of_decide_eq_true (by first | (with_reducible assumption) | assumption)
                obtain ⟨ad149, e149, hx149_0⟩ := Kd.at_int HR2.out x15_1 p149 q149
                cases e149
                replace hx149_0 := (HB.out.cell (World.block_lt_of_cell? w _ hx149_0)).trans hx149_0
                replace p149 := eq_true p149
                replace q149 := eq_true q149
                go_wp2_with (first | ((with_reducible refine gate_callee (f := 86) rfl ?_); refine goesL_ (some 21) rfl rfl Try.func86 (by kernel_rfl) rfl #[.int .i64 a0, .int .i64 (rd l2 x15_1)] rfl (by (try simp only [List.map_toArray, List.map_cons, List.map_nil]); first | done | rfl | (simp only [List.length_drop, List.length_take]; rfl)) ?_; (with_reducible refine (impl_isChain.calls a0 (rd l2 x15_1) false _ A10.out).mono ?_); rintro e w' ⟨rfl, ⟨nd, rfl⟩⟩; refine ⟨_, rfl, ?_⟩))
                go_ret
                exact ⟨by first | rfl | (simp [errW_none, errW_some] <;> rfl) | (simp [*, errW_none, errW_some] <;> rfl), by repeat (first | (with_reducible first | exact HB.out | apply below_alloc | apply pw_below_drewN | apply below_drew1) | exact HB.out)⟩
            · rw [if_neg c9] at H
              exact absurd H (by simp)
          · rw [if_neg c8] at H
            exact absurd H (by simp)
        · rw [if_neg c7] at H
          have c7b0 : decide (x15_1 < (l2.length : Int)) = false := decide_eq_false c7
          clear c7
          obtain rfl := Option.some.inj H
          go_wp2
          go_ret
          exact ⟨by first | rfl | (simp [errW_none, errW_some] <;> rfl) | (simp [*, errW_none, errW_some] <;> rfl), by repeat (first | (with_reducible first | exact HB.out | apply below_alloc | apply pw_below_drewN | apply below_drew1) | exact HB.out)⟩
  · replace c5 := Bool.eq_false_iff.mpr c5
    subst c5
    have H1 : (some 1) = some r := by rw [if_neg (show ¬ (false = true) by decide)] at H; exact H
    clear H
    have H := H1
    clear H1
    obtain rfl := Option.some.inj H
    go_enter Try.func56, Try.ntmps56
    go_wp2_with (first | ((with_reducible refine gate_callee (f := 85) rfl ?_); refine goesL_ (some 11) rfl rfl Try.func85 (by kernel_rfl) rfl #[.int .i64 a0, .slice A1 l1.length c1] rfl (by (try simp only [List.map_toArray, List.map_cons, List.map_nil]); first | done | rfl | (simp only [List.length_drop, List.length_take]; rfl)) ?_; (with_reducible refine (impl_ValidCovers.calls k a0 _ _ l1 false _ ?side1 ?side2 A4.out).mono ?_); (case side1 => repeat (first | exact HR1.out | (with_reducible refine Kd.C_alloc ?_ _) | (with_reducible refine Kd.C_drewN ?_ _) | (with_reducible refine Kd.C_drew ?_))); (case side2 => exact HC1.out); rintro e w12 ⟨rfl, hb⟩; refine ⟨_, rfl, ?_⟩; have n0_ := Aside0.mk (below_step (by repeat (first | (with_reducible first | exact HB.out | apply below_alloc | apply pw_below_drewN | apply below_drew1) | exact HB.out)) hb); clear HB; have HB := n0_; clear n0_; (try clear hb); (try clear hb2); (try clear hk); (try clear hi)))
    go_ret
    exact ⟨by first | rfl | (simp [errW_none, errW_some] <;> rfl) | (simp [*, errW_none, errW_some] <;> rfl), by repeat (first | (with_reducible first | exact HB.out | apply below_alloc | apply pw_below_drewN | apply below_drew1) | exact HB.out)⟩

/-! ### slices_Sort_int64_int64: function 76: this session's own text -/
/-- A list of whole numbers, sorted. -/
def sort64 (l : List Int) : List Int := l.mergeSort fun x y => decide (x ≤ y)
theorem sort64_length (l : List Int) : (sort64 l).length = l.length := List.length_mergeSort ..
theorem sort_own {P : Program} {f : FuncId} (hs : ∀ (blk off cap : Nat) (zs : List Int) (w : World), Sort.Holds (Value.int .i64) w blk off zs.toArray → blk < w.heap.size → zs.length < 4611686018427387904 → Calls P f #[.slice (some ⟨blk, off, none⟩) zs.length cap] w fun e w' => e = .returned (.tuple #[]) ∧ ∃ n os, w' = Sort.grow (Sort.putRow (Value.int .i64) (Sort.ahead w n) blk off (zs.mergeSort fun x y => decide (x ≤ y)).toArray) os)
    (hn : ∀ (p : Option Addr) (cap : Nat) (w : World), Calls P f #[.slice p 0 cap] w fun e w' => e = .returned (.tuple #[]) ∧ w' = w)
    {e base c : Nat} {w : World} {A : Option Addr} {l : List Int} (h : Kd.R (Kd.int .i64) e w base (fun _ => True) (.slice A l.length c) l) (hl : l.length < 4611686018427387904) :
    Calls P f #[.slice A l.length c] w fun e' w' => e' = .returned (.tuple #[]) ∧ Kd.R (Kd.int .i64) e w' base (fun _ => True) (.slice A l.length c) (sort64 l) ∧ Below base w w' := by
  rcases Nat.eq_zero_or_pos l.length with h0 | h0
  · have hl0 : l = [] := List.length_eq_zero_iff.1 h0
    subst hl0
    refine (hn A c w).mono fun e' w' ⟨h1, h2⟩ => ?_
    subst h2
    exact ⟨h1, by simpa [sort64] using h, Below.refl _ _⟩
  · have ho := Kd.own_of_R h
    rcases ho.2 with ⟨h1, h2⟩ | ⟨g, cap, cur, hv, hb, hh, h1, h2, h3, h4⟩
    · omega
    · simp only [Value.slice.injEq] at hv
      obtain ⟨rfl, _, rfl⟩ := hv
      have ht : cur.toList.take l.length = l.map (Value.int .i64) := by simpa [encs] using h4
      have hH := Go.holds_of_blockI hh ht
      refine (hs g 0 c l w hH (blk_lt hh) hl).mono fun e' w' ⟨h5, n, os, h6⟩ => ?_
      subst h6
      have hlen : (l.mergeSort fun x y => decide (x ≤ y)).length = l.length := List.length_mergeSort ..
      have hown := Go.ownsRow_sortedI (n := n) (os := os) (ts := l.mergeSort fun x y => decide (x ≤ y)) hlen hb hh h1 h2 h3
      have hg := Go.grownBy_sortedI (w := w) (g := g) (n := n) (os := os) (l.mergeSort fun x y => decide (x ≤ y)).toArray
      refine ⟨h5, ?_, ⟨hg.os, hg.tape, hg.output, hg.size, fun i hi => hg.block i (Nat.lt_of_lt_of_le (Nat.lt_of_lt_of_le hi hb) (Nat.le_of_lt (blk_lt hh))) (by simp; omega)⟩⟩
      have hR := Kd.R_of_own (enc := Value.int .i64) (h1 := fun _ => rfl) (e := e) (base := base) (ok := fun _ => True) (xs := sort64 l) (by rw [sort64_length]; exact hown) (fun _ _ => trivial)
      exact hR

def slices_Sort_int64_int64.f (l : List Int) : Option (List Int) := if l.length < 4611686018427387904 then some (sort64 l) else none
theorem slices_Sort_int64_int64.calls {base c : Nat} {w : World} {A : Option Addr} {l : List Int} (h : Kd.R (Kd.int .i64) 2 w base (fun _ => True) (.slice A l.length c) l) (hl : l.length < 4611686018427387904) :
    Calls Try.prog 76 #[.slice A l.length c] w fun e' w' => e' = .returned (.tuple #[]) ∧ Kd.R (Kd.int .i64) 2 w' base (fun _ => True) (.slice A l.length c) (sort64 l) ∧ Below base w w' :=
  sort_own (fun blk off cap zs w hH hb hz => AnyG.slices_Sort_int Try.sortI blk off cap zs w hH hb hz) (AnyG.slices_Sort_int_none Try.sortI) h hl

/-! ### impl_coveredBy: function 57 -/
def impl_coveredBy.l0 : Nat → Int → List Int → List (S64) → Int → Int → Option (List Int)
  | 0, _, _, _, _, _ => none
  | k + 1, x1, x5, x9, x10, x11 => if x11 < x10 then (if 0 ≤ x11 then (if x11 < (x9.length : Int) then (if (wrap64 ((rd_T64 x9 x11).f1)) = x1 then (if x5.length < 17592186044416 then (impl_coveredBy.l0 k x1 (x5 ++ [wrap64 ((rd_T64 x9 x11).f0)]) x9 x10 (wrap64 (x11 + 1))) else (none)) else (impl_coveredBy.l0 k x1 x5 x9 x10 (wrap64 (x11 + 1)))) else (none)) else (none)) else ((slices_Sort_int64_int64.f x5).bind fun y_ => (some y_))
def impl_coveredBy.f (k : Nat) (l0 : List (S64)) (a1 : Int) : Option (List Int) := impl_coveredBy.l0 k a1 (([] : List Int)) l0 (l0.length : Int) 0
theorem impl_coveredBy.mono_l : ∀ k, (∀ y0 y1 y2 y3 y4, LeO (impl_coveredBy.l0 k y0 y1 y2 y3 y4) (impl_coveredBy.l0 (k + 1) y0 y1 y2 y3 y4))
  | 0 => fun _ _ _ _ _ r h => by simp [impl_coveredBy.l0] at h
  | k + 1 => by
    have ih0 := impl_coveredBy.mono_l k
    · intro y0 y1 y2 y3 y4
      unfold impl_coveredBy.l0
      repeat' first
      | (with_reducible exact ih0 _ _ _ _ _)
      | (with_reducible exact LeO.refl _)
      | (with_reducible exact LeO.none _)
      | (with_reducible refine LeO.ite ?_ ?_)
      | (with_reducible refine LeO.bind ?_ (fun _ => ?_))
      | exact ih0 _ _ _ _ _
      | exact LeO.none _
      | refine LeO.ite ?_ ?_
      | refine LeO.bind ?_ (fun _ => ?_)
theorem impl_coveredBy.mono : ∀ a0 a1 k, LeO (impl_coveredBy.f k a0 a1) (impl_coveredBy.f (k + 1) a0 a1) := by
  intro a0 a1 k
  have ih0 := impl_coveredBy.mono_l k
  unfold impl_coveredBy.f
  repeat' first
      | (with_reducible exact ih0 _ _ _ _ _)
      | (with_reducible exact LeO.refl _)
      | (with_reducible exact LeO.none _)
      | (with_reducible refine LeO.ite ?_ ?_)
      | (with_reducible refine LeO.bind ?_ (fun _ => ?_))
      | exact ih0 _ _ _ _ _
      | exact LeO.none _
      | refine LeO.ite ?_ ?_
      | refine LeO.bind ?_ (fun _ => ?_)
set_option maxHeartbeats 8000000 in
set_option maxRecDepth 100000 in
theorem impl_coveredBy.calls (k : Nat) (A0 : Option Addr) (c0 : Nat) (l0 : List (S64)) (a1 : Int) (r : List Int) (w : World) (hr0 : Kd.C k64 w A0 l0.length l0) (hc0 : l0.length ≤ c0) (h : impl_coveredBy.f k l0 a1 = some r) :
    Calls Try.prog 57 #[.slice A0 l0.length c0, .int .i64 a1] w fun e w' => ∃ v0_ : Value, e = .returned (v0_) ∧ Kd.R (Kd.int .i64) 2 w' w.heap.size (fun _ => True) v0_ r ∧ Below w.heap.size w w' := by
  have hu64 := Try.underlying64
  have HR0 := Aside0.mk hr0
  have HC0 := Aside0.mk hc0
  clear hr0 hc0
  have HB := Aside0.mk (Below.refl w.heap.size w)
  have H : (impl_coveredBy.l0 k a1 (([] : List Int)) l0 (l0.length : Int) 0) = some r := h
  clear h
  obtain ⟨y151, hy151⟩ : ∃ y_ : List Int, y_ = (([] : List Int)) := ⟨_, rfl⟩
  replace H : (impl_coveredBy.l0 k a1 y151 l0 (l0.length : Int) 0) = some r := by first | (rw [hy151]; with_reducible exact H) | (have H2_ := (Option.bind_some _ _).symm.trans H; rw [hy151]; with_reducible exact H2_) | (have H2_ := (Option.bind_some _ _).symm.trans H; with_reducible exact H2_) | with_reducible exact H | (rw [hy151]; exact H) | exact H
  have Ny151 := Aside0.mk hy151
  clear hy151
  have H' := Aside0.mk H
  clear H
  go_enter Try.func57, Try.ntmps57
  go_wp2_with (first | ((with_reducible refine gate_dst (N := 8) rfl ?_); refine Kd.R_lit (Kd.int .i64) _ 2 ?hg (N := 8) ?hd (xs := ([] : List Int)) (inner := []) (ok := fun _ => True) (okp := fun _ => True) ?hr ?hp (fun _ hk => hk) trivial (Below.refl _ _) (Nat.le_refl _) (by simp) ?_; (case hd => rfl); (case hg => rfl); (case hr => first | (go_simp; done) | (go_simp; rfl)); (case hp => exact (Reps.none _ _)); intro v152 w3 ho4 hb hg_ hnew_; clear hg_ hnew_; (first | rw [← Ny151.out] at ho4 | (simp only [Int.reduceToNat] at ho4; rw [← Ny151.out] at ho4)); have n0_ := Aside0.mk (Kd.R_lower ho4 (below_size (by repeat (first | (with_reducible first | exact HB.out | apply below_alloc | apply pw_below_drewN | apply below_drew1) | exact HB.out)))); have n1_ := Aside0.mk (below_step (by repeat (first | (with_reducible first | exact HB.out | apply below_alloc | apply pw_below_drewN | apply below_drew1) | exact HB.out)) hb); clear HB; have HO153 := n0_; have HB := n1_; clear n0_ n1_; clear hb ho4))
  go_loopg [5, 11] k (fun kq v5 v11 w' => ∃ (x5_1 : List Int) (x11_1 : Int), v11 = .int .i64 x11_1 ∧ Aside0 (impl_coveredBy.l0 kq a1 x5_1 l0 (l0.length : Int) x11_1 = some r) ∧ Aside0 (kq ≤ k) ∧ Aside0 (Kd.R (Kd.int .i64) 2 w' w.heap.size (fun _ => True) v5 x5_1) ∧ Aside0 (Below w.heap.size w w'))
  case atStart => exact ⟨(y151), (0), (by first | rfl | (simp; done) | (simp [*]; done)), H', ⟨Nat.le_refl _⟩, ⟨by (with_reducible repeat (first | apply Kd.R_alloc | apply Kd.R_drewN | apply Kd.R_drew)); exact HO153.out⟩, ⟨by repeat (first | (with_reducible first | exact HB.out | apply below_alloc | apply pw_below_drewN | apply below_drew1) | exact HB.out)⟩⟩
  case round =>
    clear H'
    try clear p2
    obtain ⟨x5_1, x11_1, rfl, HA, HK1, HO_5, HB⟩ := hrel
    cases gk with
    | zero => exact absurd HA.out (by simp [impl_coveredBy.l0])
    | succ k1 =>
      have H := HA.out
      clear HA
      simp only [impl_coveredBy.l0] at H
      by_cases c5 : x11_1 < (l0.length : Int)
      · rw [if_pos c5] at H
        have c5b0 : decide (x11_1 < (l0.length : Int)) = true := decide_eq_true c5
        clear c5
        by_cases c6 : 0 ≤ x11_1
        · rw [if_pos c6] at H
          have c6b0 : decide (0 ≤ x11_1) = true := decide_eq_true c6
          clear c6
          by_cases c7 : x11_1 < (l0.length : Int)
          · rw [if_pos c7] at H
            have c7b0 : decide (x11_1 < (l0.length : Int)) = true := decide_eq_true c7
            clear c7
            by_cases c8 : (wrap64 ((rd_T64 l0 x11_1).f1)) = a1
            · rw [if_pos c8] at H
              have c8b0 : ((wrap64 ((rd_T64 l0 x11_1).f1)) == a1) = true := beq_iff_eq.mpr c8
              have c8b1 : ((wrap64 ((rd_T64 l0 x11_1).f1)) != a1) = false := bne_eq_false_iff_eq.mpr c8
              clear c8
              by_cases c9 : x5_1.length < 17592186044416
              · rw [if_pos c9] at H
                have LMc9 := Aside0.mk c9
                clear c9
                obtain ⟨y156, hy156⟩ : ∃ y_ : List Int, y_ = (x5_1 ++ [wrap64 ((rd_T64 l0 x11_1).f0)]) := ⟨_, rfl⟩
                replace H : (impl_coveredBy.l0 k1 a1 y156 l0 (l0.length : Int) (wrap64 (x11_1 + 1))) = some r := by first | (rw [hy156]; with_reducible exact H) | (have H2_ := (Option.bind_some _ _).symm.trans H; rw [hy156]; with_reducible exact H2_) | (have H2_ := (Option.bind_some _ _).symm.trans H; with_reducible exact H2_) | with_reducible exact H | (rw [hy156]; exact H) | exact H
                have Ny156 := Aside0.mk hy156
                clear hy156
                have H' := Aside0.mk H
                clear H
                have p154 : 0 ≤ (x11_1 : Int) := of_decide_eq_true (by first | (with_reducible assumption) | assumption)
                have q154 : x11_1 < (l0.length : Int) := of_decide_eq_true (by first | (with_reducible assumption) | assumption)
                obtain ⟨ad154, e154, hx154_0, hx154_1⟩ := at_T64 HR0.out x11_1 p154 q154
                cases e154
                replace hx154_0 := (HB.out.cell (World.block_lt_of_cell? w _ hx154_0)).trans hx154_0
                replace hx154_1 := (HB.out.cell (World.block_lt_of_cell? w _ hx154_1)).trans hx154_1
                replace p154 := eq_true p154
                replace q154 := eq_true q154
                go_wp2_with (first | ((with_reducible refine gate_dst (N := 7) rfl ?_); refine box_event ?hg (N := 7) ?hd (cs := #[.int .i8 0, .int .i8 0]) (t := 64) ?hr ?_; (case hd => rfl); (case hg => rfl); (case hr => first | (go_simp; done) | (go_simp; rfl)); intro gb155 hg w10 hbox hb; have n0_ := Aside0.mk (Kd.R_below (by (with_reducible repeat (first | apply Kd.R_alloc | apply Kd.R_drewN | apply Kd.R_drew)); exact HO_5.out) hb); have n1_ := Aside0.mk (below_step (by repeat (first | (with_reducible first | exact HB.out | apply below_alloc | apply pw_below_drewN | apply below_drew1) | exact HB.out)) hb); have n2_ := Aside0.mk (hbox); have n3_ := Aside0.mk ((by rw [hg]; exact (below_size (by repeat (first | (with_reducible first | exact HB.out | apply below_alloc | apply pw_below_drewN | apply below_drew1) | exact HB.out))) : w.heap.size ≤ gb155)); have n4_ := Aside0.mk ((by rw [hg]; exact (below_size (by repeat (first | (with_reducible first | exact HB.out | apply below_alloc | apply pw_below_drewN | apply below_drew1) | exact HB.out))) : w.heap.size ≤ gb155)); clear HO_5; clear HB; have HO_5 := n0_; have HB := n1_; have BK155 := n2_; have GW155 := n3_; have GE155 := n4_; clear n0_ n1_ n2_ n3_ n4_; clear hb hbox hg; have hcz11_0 : w10.cell? ⟨gb155, 0, none⟩ = some (.int .i8 0) := (blk_cell BK155.out 0).trans rfl; have hcz11_1 : w10.cell? ⟨gb155, 1, none⟩ = some (.int .i8 0) := (blk_cell BK155.out 1).trans rfl; have hfz11_0 := blk_frozen BK155.out 0; have hfz11_1 := blk_frozen BK155.out 1) | ((with_reducible refine gate_builtin (b := .append) (xs := #[.tmp 20, .tmp 24]) rfl ?_); at_builtin; refine Kd.R_append (Kd.int .i64) (w0 := w) w.heap.size rfl (.tmp 20) (.tmp 24) 24 2 (.int .i64 0) 8 rfl Try.underlying24 info2 rfl (by decide) (by omega) u5 x5_1 (wrap64 ((rd_T64 l0 x11_1).f0)) [.int .i64 (wrap64 ((rd_T64 l0 x11_1).f0))] (fun _ => True) (fun _ => False) rfl (by first | (go_simp; done) | (go_simp; rfl)) ?aP (fun _ hk => hk.elim) ?aF ?aO ?aB ?aS ?aL ?_; (case aP => exact rfl); (case aB => exact (by repeat (first | (with_reducible first | exact HB.out | apply below_alloc | apply pw_below_drewN | apply below_drew1 | refine below_set ?_ GE155.out) | exact HB.out))); (case aF => exact (fun _ _ => trivial)); (case aO => exact (by (with_reducible repeat (first | apply Kd.R_alloc | apply Kd.R_drewN | apply Kd.R_drew)); exact Kd.R_mono (Kd.R_far (p := ⟨gb155, 1, none⟩) (Kd.R_far (p := ⟨gb155, 0, none⟩) (Kd.R_types HO_5.out BK155.out (by decide)) (fun _ hk => hk.2) (.int .i8 ((rd_T64 l0 x11_1).f0))) (fun _ hk => hk.2) (.int .i8 ((rd_T64 l0 x11_1).f1))) (fun _ hk => trivial))); (case aS => exact (below_size (by repeat (first | (with_reducible first | exact HB.out | apply below_alloc | apply pw_below_drewN | apply below_drew1 | refine below_set ?_ GE155.out) | exact HB.out)))); (case aL => have := LMc9.out; omega); intro v157 w12 ho hb hg hat; rw [← Ny156.out] at ho; have n0_ := Aside0.mk (blk_grown (g := gb155) (o := .cells #[.int .i8 ((rd_T64 l0 x11_1).f0), .int .i8 ((rd_T64 l0 x11_1).f1)] 64 (0, 0)) (by (with_reducible repeat (first | refine blk_drewN ?_ _ | refine blk_drew ?_ | refine blk_alloc ?_ _)); refine blk_put (cs := #[.int .i8 ((rd_T64 l0 x11_1).f0), .int .i8 0]) ?_ 1 _ rfl; (with_reducible repeat (first | refine blk_drewN ?_ _ | refine blk_drew ?_ | refine blk_alloc ?_ _)); refine blk_put (cs := #[.int .i8 0, .int .i8 0]) ?_ 0 _ rfl; (with_reducible repeat (first | refine blk_drewN ?_ _ | refine blk_drew ?_ | refine blk_alloc ?_ _)); exact BK155.out) hg (Kd.R_ne HO_5.out BK155.out (by decide))); have n1_ := Aside0.mk (hb); have n2_ := Aside0.mk (ho); clear BK155; clear HB; clear HO_5; have BK155 := n0_; have HB := n1_; have HO158 := n2_; clear n0_ n1_ n2_; clear ho hb hg hat))
                go_roundg k1
                case measure => have := HK1.out; omega
                case rel => exact ⟨(y156), (wrap64 (x11_1 + 1)), (by first | rfl | (simp; done) | (simp [*]; done)), H', ⟨by have := HK1.out; omega⟩, ⟨by (with_reducible repeat (first | apply Kd.R_alloc | apply Kd.R_drewN | apply Kd.R_drew)); exact HO158.out⟩, ⟨by repeat (first | (with_reducible first | exact HB.out | apply below_alloc | apply pw_below_drewN | apply below_drew1 | refine below_set ?_ GE155.out) | exact HB.out)⟩⟩
              · rw [if_neg c9] at H
                exact absurd H (by simp)
            · rw [if_neg c8] at H
              have c8b0 : ((wrap64 ((rd_T64 l0 x11_1).f1)) == a1) = false := beq_eq_false_iff_ne.mpr c8
              have c8b1 : ((wrap64 ((rd_T64 l0 x11_1).f1)) != a1) = true := bne_iff_ne.mpr c8
              have H' := Aside0.mk H
              clear H
              have p154 : 0 ≤ (x11_1 : Int) := of_decide_eq_true (by first | (with_reducible assumption) | assumption)
              have q154 : x11_1 < (l0.length : Int) := of_decide_eq_true (by first | (with_reducible assumption) | assumption)
              obtain ⟨ad154, e154, hx154_0, hx154_1⟩ := at_T64 HR0.out x11_1 p154 q154
              cases e154
              replace hx154_0 := (HB.out.cell (World.block_lt_of_cell? w _ hx154_0)).trans hx154_0
              replace hx154_1 := (HB.out.cell (World.block_lt_of_cell? w _ hx154_1)).trans hx154_1
              replace p154 := eq_true p154
              replace q154 := eq_true q154
              go_wp2_with (first | ((with_reducible refine gate_dst (N := 7) rfl ?_); refine box_event ?hg (N := 7) ?hd (cs := #[.int .i8 0, .int .i8 0]) (t := 64) ?hr ?_; (case hd => rfl); (case hg => rfl); (case hr => first | (go_simp; done) | (go_simp; rfl)); intro gb155 hg w13 hbox hb; have n0_ := Aside0.mk (Kd.R_below (by (with_reducible repeat (first | apply Kd.R_alloc | apply Kd.R_drewN | apply Kd.R_drew)); exact HO_5.out) hb); have n1_ := Aside0.mk (below_step (by repeat (first | (with_reducible first | exact HB.out | apply below_alloc | apply pw_below_drewN | apply below_drew1) | exact HB.out)) hb); have n2_ := Aside0.mk (hbox); have n3_ := Aside0.mk ((by rw [hg]; exact (below_size (by repeat (first | (with_reducible first | exact HB.out | apply below_alloc | apply pw_below_drewN | apply below_drew1) | exact HB.out))) : w.heap.size ≤ gb155)); have n4_ := Aside0.mk ((by rw [hg]; exact (below_size (by repeat (first | (with_reducible first | exact HB.out | apply below_alloc | apply pw_below_drewN | apply below_drew1) | exact HB.out))) : w.heap.size ≤ gb155)); clear HO_5; clear HB; have HO_5 := n0_; have HB := n1_; have BK155 := n2_; have GW155 := n3_; have GE155 := n4_; clear n0_ n1_ n2_ n3_ n4_; clear hb hbox hg; have hcz14_0 : w13.cell? ⟨gb155, 0, none⟩ = some (.int .i8 0) := (blk_cell BK155.out 0).trans rfl; have hcz14_1 : w13.cell? ⟨gb155, 1, none⟩ = some (.int .i8 0) := (blk_cell BK155.out 1).trans rfl; have hfz14_0 := blk_frozen BK155.out 0; have hfz14_1 := blk_frozen BK155.out 1))
              go_roundg k1
              case measure => have := HK1.out; omega
              case rel => exact ⟨(x5_1), (wrap64 (x11_1 + 1)), (by first | rfl | (simp; done) | (simp [*]; done)), H', ⟨by have := HK1.out; omega⟩, ⟨by (with_reducible repeat (first | apply Kd.R_alloc | apply Kd.R_drewN | apply Kd.R_drew)); exact Kd.R_mono (Kd.R_far (p := ⟨gb155, 1, none⟩) (Kd.R_far (p := ⟨gb155, 0, none⟩) (Kd.R_types HO_5.out BK155.out (by decide)) (fun _ hk => hk.2) (.int .i8 ((rd_T64 l0 x11_1).f0))) (fun _ hk => hk.2) (.int .i8 ((rd_T64 l0 x11_1).f1))) (fun _ hk => trivial)⟩, ⟨by repeat (first | (with_reducible first | exact HB.out | apply below_alloc | apply pw_below_drewN | apply below_drew1 | refine below_set ?_ GE155.out) | exact HB.out)⟩⟩
          · rw [if_neg c7] at H
            exact absurd H (by simp)
        · rw [if_neg c6] at H
          exact absurd H (by simp)
      · rw [if_neg c5] at H
        have c5b0 : decide (x11_1 < (l0.length : Int)) = false := decide_eq_false c5
        clear c5
        replace H := Option.bind_eq_some_iff.mp H
        obtain ⟨ys_, A150, H⟩ := H
        unfold slices_Sort_int64_int64.f at A150
        by_cases hls_ : x5_1.length < 4611686018427387904
        · rw [if_pos hls_] at A150
          obtain rfl := Option.some.inj A150
          obtain rfl := Option.some.inj H
          obtain ⟨Ao16, co16, eo16⟩ := Kd.R_slice HO_5.out
          subst eo16
          have hso_ := Aside0.mk (slices_Sort_int64_int64.calls HO_5.out hls_)
          clear hls_ A150 H
          go_wp2_with (first | (go_at_call 76; refine hso_.out.mono ?_; rintro e w17 ⟨rfl, hR_, hb_⟩; have HS_ := Aside0.mk (And.intro hR_ hb_); clear hR_ hb_))
          go_ret
          exact ⟨_, by first | rfl | (simp; done), HS_.out.1, HB.out.trans HS_.out.2⟩
        · rw [if_neg hls_] at A150; cases A150

/-! ### impl_counting: function 65 -/
def impl_counting.l0 : Nat → List Int → Int → Int → Option (List Int)
  | 0, _, _, _ => none
  | k + 1, x3, x6, x7 => if x7 < x6 then (if x3.length < 17592186044416 then (impl_counting.l0 k (x3 ++ [x7]) x6 (wrap64 (x7 + 1))) else (none)) else (some x3)
def impl_counting.f (k : Nat) (a0 : Int) : Option (List Int) := impl_counting.l0 k (([] : List Int)) a0 0
theorem impl_counting.mono_l : ∀ k, (∀ y0 y1 y2, LeO (impl_counting.l0 k y0 y1 y2) (impl_counting.l0 (k + 1) y0 y1 y2))
  | 0 => fun _ _ _ r h => by simp [impl_counting.l0] at h
  | k + 1 => by
    have ih0 := impl_counting.mono_l k
    · intro y0 y1 y2
      unfold impl_counting.l0
      repeat' first
      | (with_reducible exact ih0 _ _ _)
      | (with_reducible exact LeO.refl _)
      | (with_reducible exact LeO.none _)
      | (with_reducible refine LeO.ite ?_ ?_)
      | (with_reducible refine LeO.bind ?_ (fun _ => ?_))
      | exact ih0 _ _ _
      | exact LeO.none _
      | refine LeO.ite ?_ ?_
      | refine LeO.bind ?_ (fun _ => ?_)
theorem impl_counting.mono : ∀ a0 k, LeO (impl_counting.f k a0) (impl_counting.f (k + 1) a0) := by
  intro a0 k
  have ih0 := impl_counting.mono_l k
  unfold impl_counting.f
  repeat' first
      | (with_reducible exact ih0 _ _ _)
      | (with_reducible exact LeO.refl _)
      | (with_reducible exact LeO.none _)
      | (with_reducible refine LeO.ite ?_ ?_)
      | (with_reducible refine LeO.bind ?_ (fun _ => ?_))
      | exact ih0 _ _ _
      | exact LeO.none _
      | refine LeO.ite ?_ ?_
      | refine LeO.bind ?_ (fun _ => ?_)
set_option maxHeartbeats 8000000 in
set_option maxRecDepth 100000 in
theorem impl_counting.calls (k : Nat) (a0 : Int) (r : List Int) (w : World) (h : impl_counting.f k a0 = some r) :
    Calls Try.prog 65 #[.int .i64 a0] w fun e w' => ∃ v0_ : Value, e = .returned (v0_) ∧ Kd.R (Kd.int .i64) 2 w' w.heap.size (fun _ => True) v0_ r ∧ Below w.heap.size w w' := by
  have HB := Aside0.mk (Below.refl w.heap.size w)
  have H : (impl_counting.l0 k (([] : List Int)) a0 0) = some r := h
  clear h
  obtain ⟨y159, hy159⟩ : ∃ y_ : List Int, y_ = (([] : List Int)) := ⟨_, rfl⟩
  replace H : (impl_counting.l0 k y159 a0 0) = some r := by first | (rw [hy159]; with_reducible exact H) | (have H2_ := (Option.bind_some _ _).symm.trans H; rw [hy159]; with_reducible exact H2_) | (have H2_ := (Option.bind_some _ _).symm.trans H; with_reducible exact H2_) | with_reducible exact H | (rw [hy159]; exact H) | exact H
  have Ny159 := Aside0.mk hy159
  clear hy159
  have H' := Aside0.mk H
  clear H
  go_enter Try.func65, Try.ntmps65
  go_wp2_with (first | ((with_reducible refine gate_dst (N := 5) rfl ?_); refine Kd.R_lit (Kd.int .i64) _ 2 ?hg (N := 5) ?hd (xs := ([] : List Int)) (inner := []) (ok := fun _ => True) (okp := fun _ => True) ?hr ?hp (fun _ hk => hk) trivial (Below.refl _ _) (Nat.le_refl _) (by simp) ?_; (case hd => rfl); (case hg => rfl); (case hr => first | (go_simp; done) | (go_simp; rfl)); (case hp => exact (Reps.none _ _)); intro v160 w2 ho3 hb hg_ hnew_; clear hg_ hnew_; (first | rw [← Ny159.out] at ho3 | (simp only [Int.reduceToNat] at ho3; rw [← Ny159.out] at ho3)); have n0_ := Aside0.mk (Kd.R_lower ho3 (below_size (by repeat (first | (with_reducible first | exact HB.out | apply below_alloc | apply pw_below_drewN | apply below_drew1) | exact HB.out)))); have n1_ := Aside0.mk (below_step (by repeat (first | (with_reducible first | exact HB.out | apply below_alloc | apply pw_below_drewN | apply below_drew1) | exact HB.out)) hb); clear HB; have HO161 := n0_; have HB := n1_; clear n0_ n1_; clear hb ho3))
  go_loopg [3, 7] k (fun kq v3 v7 w' => ∃ (x3_1 : List Int) (x7_1 : Int), v7 = .int .i64 x7_1 ∧ Aside0 (impl_counting.l0 kq x3_1 a0 x7_1 = some r) ∧ Aside0 (kq ≤ k) ∧ Aside0 (Kd.R (Kd.int .i64) 2 w' w.heap.size (fun _ => True) v3 x3_1) ∧ Aside0 (Below w.heap.size w w'))
  case atStart => exact ⟨(y159), (0), (by first | rfl | (simp; done) | (simp [*]; done)), H', ⟨Nat.le_refl _⟩, ⟨by (with_reducible repeat (first | apply Kd.R_alloc | apply Kd.R_drewN | apply Kd.R_drew)); exact HO161.out⟩, ⟨by repeat (first | (with_reducible first | exact HB.out | apply below_alloc | apply pw_below_drewN | apply below_drew1) | exact HB.out)⟩⟩
  case round =>
    clear H'
    try clear p2
    obtain ⟨x3_1, x7_1, rfl, HA, HK1, HO_3, HB⟩ := hrel
    cases gk with
    | zero => exact absurd HA.out (by simp [impl_counting.l0])
    | succ k1 =>
      have H := HA.out
      clear HA
      simp only [impl_counting.l0] at H
      by_cases c4 : x7_1 < a0
      · rw [if_pos c4] at H
        have c4b0 : decide (x7_1 < a0) = true := decide_eq_true c4
        clear c4
        by_cases c5 : x3_1.length < 17592186044416
        · rw [if_pos c5] at H
          have LMc5 := Aside0.mk c5
          clear c5
          obtain ⟨y162, hy162⟩ : ∃ y_ : List Int, y_ = (x3_1 ++ [x7_1]) := ⟨_, rfl⟩
          replace H : (impl_counting.l0 k1 y162 a0 (wrap64 (x7_1 + 1))) = some r := by first | (rw [hy162]; with_reducible exact H) | (have H2_ := (Option.bind_some _ _).symm.trans H; rw [hy162]; with_reducible exact H2_) | (have H2_ := (Option.bind_some _ _).symm.trans H; with_reducible exact H2_) | with_reducible exact H | (rw [hy162]; exact H) | exact H
          have Ny162 := Aside0.mk hy162
          clear hy162
          have H' := Aside0.mk H
          clear H
          go_wp2_with (first | ((with_reducible refine gate_builtin (b := .append) (xs := #[.tmp 10, .tmp 12]) rfl ?_); at_builtin; refine Kd.R_append (Kd.int .i64) (w0 := w) w.heap.size rfl (.tmp 10) (.tmp 12) 24 2 (.int .i64 0) 8 rfl Try.underlying24 info2 rfl (by decide) (by omega) u3 x3_1 x7_1 [.int .i64 x7_1] (fun _ => True) (fun _ => False) rfl rfl ?aP (fun _ hk => hk.elim) ?aF ?aO ?aB ?aS ?aL ?_; (case aP => exact rfl); (case aB => exact (by repeat (first | (with_reducible first | exact HB.out | apply below_alloc | apply pw_below_drewN | apply below_drew1) | exact HB.out))); (case aF => exact (fun _ _ => trivial)); (case aO => exact (by (with_reducible repeat (first | apply Kd.R_alloc | apply Kd.R_drewN | apply Kd.R_drew)); exact HO_3.out)); (case aS => exact (below_size (by repeat (first | (with_reducible first | exact HB.out | apply below_alloc | apply pw_below_drewN | apply below_drew1) | exact HB.out)))); (case aL => have := LMc5.out; omega); intro v163 w6 ho hb hg hat; rw [← Ny162.out] at ho; have n0_ := Aside0.mk (hb); have n1_ := Aside0.mk (ho); clear HB; clear HO_3; have HB := n0_; have HO164 := n1_; clear n0_ n1_; clear ho hb hg hat))
          go_roundg k1
          case measure => have := HK1.out; omega
          case rel => exact ⟨(y162), (wrap64 (x7_1 + 1)), (by first | rfl | (simp; done) | (simp [*]; done)), H', ⟨by have := HK1.out; omega⟩, ⟨by (with_reducible repeat (first | apply Kd.R_alloc | apply Kd.R_drewN | apply Kd.R_drew)); exact HO164.out⟩, ⟨by repeat (first | (with_reducible first | exact HB.out | apply below_alloc | apply pw_below_drewN | apply below_drew1) | exact HB.out)⟩⟩
        · rw [if_neg c5] at H
          exact absurd H (by simp)
      · rw [if_neg c4] at H
        have c4b0 : decide (x7_1 < a0) = false := decide_eq_false c4
        clear c4
        obtain rfl := Option.some.inj H
        go_wp2
        go_ret
        exact ⟨_, by first | rfl | (simp [errW_none, errW_some] <;> rfl) | (simp [*, errW_none, errW_some] <;> rfl), by (with_reducible repeat (first | apply Kd.R_alloc | apply Kd.R_drewN | apply Kd.R_drew)); exact HO_3.out, by repeat (first | (with_reducible first | exact HB.out | apply below_alloc | apply pw_below_drewN | apply below_drew1) | exact HB.out)⟩

/-! ### slices_Index_int64_int64: function 91 -/
def slices_Index_int64_int64.l0 : Nat → List Int → Int → Int → Int → Option (Int)
  | 0, _, _, _, _ => none
  | k + 1, x0, x1, x7, x8 => if x8 < x7 then (if 0 ≤ x8 then (if x8 < (x0.length : Int) then (if x1 = (rd x0 x8) then (some x8) else (slices_Index_int64_int64.l0 k x0 x1 x7 (wrap64 (x8 + 1)))) else (none)) else (none)) else (some (-1))
def slices_Index_int64_int64.f (k : Nat) (l0 : List Int) (a1 : Int) : Option (Int) := slices_Index_int64_int64.l0 k l0 a1 (l0.length : Int) 0
theorem slices_Index_int64_int64.mono_l : ∀ k, (∀ y0 y1 y2 y3, LeO (slices_Index_int64_int64.l0 k y0 y1 y2 y3) (slices_Index_int64_int64.l0 (k + 1) y0 y1 y2 y3))
  | 0 => fun _ _ _ _ r h => by simp [slices_Index_int64_int64.l0] at h
  | k + 1 => by
    have ih0 := slices_Index_int64_int64.mono_l k
    · intro y0 y1 y2 y3
      unfold slices_Index_int64_int64.l0
      repeat' first
      | (with_reducible exact ih0 _ _ _ _)
      | (with_reducible exact LeO.refl _)
      | (with_reducible exact LeO.none _)
      | (with_reducible refine LeO.ite ?_ ?_)
      | (with_reducible refine LeO.bind ?_ (fun _ => ?_))
      | exact ih0 _ _ _ _
      | exact LeO.none _
      | refine LeO.ite ?_ ?_
      | refine LeO.bind ?_ (fun _ => ?_)
theorem slices_Index_int64_int64.mono : ∀ a0 a1 k, LeO (slices_Index_int64_int64.f k a0 a1) (slices_Index_int64_int64.f (k + 1) a0 a1) := by
  intro a0 a1 k
  have ih0 := slices_Index_int64_int64.mono_l k
  unfold slices_Index_int64_int64.f
  repeat' first
      | (with_reducible exact ih0 _ _ _ _)
      | (with_reducible exact LeO.refl _)
      | (with_reducible exact LeO.none _)
      | (with_reducible refine LeO.ite ?_ ?_)
      | (with_reducible refine LeO.bind ?_ (fun _ => ?_))
      | exact ih0 _ _ _ _
      | exact LeO.none _
      | refine LeO.ite ?_ ?_
      | refine LeO.bind ?_ (fun _ => ?_)
set_option maxHeartbeats 8000000 in
set_option maxRecDepth 100000 in
theorem slices_Index_int64_int64.calls (k : Nat) (A0 : Option Addr) (c0 : Nat) (l0 : List Int) (a1 : Int) (r : Int) (w : World) (hr0 : Kd.C (Kd.int .i64) w A0 l0.length l0) (hc0 : l0.length ≤ c0) (h : slices_Index_int64_int64.f k l0 a1 = some r) :
    Calls Try.prog 91 #[.slice A0 l0.length c0, .int .i64 a1] w fun e w' => e = .returned (.int .i64 r) ∧ Drawn0 w w' := by
  have HR0 := Aside0.mk hr0
  have HC0 := Aside0.mk hc0
  clear hr0 hc0
  have H : (slices_Index_int64_int64.l0 k l0 a1 (l0.length : Int) 0) = some r := h
  clear h
  have H' := Aside0.mk H
  clear H
  go_enter Try.func91, Try.ntmps91
  go_wp2
  go_loopg [8] k (fun kq v8 w' => ∃ (x8_1 : Int), v8 = .int .i64 x8_1 ∧ Aside0 (slices_Index_int64_int64.l0 kq l0 a1 (l0.length : Int) x8_1 = some r) ∧ Aside0 (kq ≤ k) ∧ Drawn0 w w')
  case atStart => exact ⟨(0), (by first | rfl | (simp; done) | (simp [*]; done)), H', ⟨Nat.le_refl _⟩, by repeat (first | exact Drawn0.refl _ | apply Drawn0.step)⟩
  case round =>
    clear H'
    try clear p2
    obtain ⟨x8_1, rfl, HA, HK1, ⟨m1, rfl⟩⟩ := hrel
    cases gk with
    | zero => exact absurd HA.out (by simp [slices_Index_int64_int64.l0])
    | succ k1 =>
      have H := HA.out
      clear HA
      simp only [slices_Index_int64_int64.l0] at H
      by_cases c3 : x8_1 < (l0.length : Int)
      · rw [if_pos c3] at H
        have c3b0 : decide (x8_1 < (l0.length : Int)) = true := decide_eq_true c3
        clear c3
        by_cases c4 : 0 ≤ x8_1
        · rw [if_pos c4] at H
          have c4b0 : decide (0 ≤ x8_1) = true := decide_eq_true c4
          clear c4
          by_cases c5 : x8_1 < (l0.length : Int)
          · rw [if_pos c5] at H
            have c5b0 : decide (x8_1 < (l0.length : Int)) = true := decide_eq_true c5
            clear c5
            by_cases c6 : a1 = (rd l0 x8_1)
            · rw [if_pos c6] at H
              have c6b0 : (a1 == (rd l0 x8_1)) = true := beq_iff_eq.mpr c6
              have c6b1 : (a1 != (rd l0 x8_1)) = false := bne_eq_false_iff_eq.mpr c6
              clear c6
              obtain rfl := Option.some.inj H
              have p165 : 0 ≤ (x8_1 : Int) := of_decide_eq_true (by first | (with_reducible assumption) | assumption)
              have q165 : x8_1 < (l0.length : Int) := of_decide_eq_true (by first | (with_reducible assumption) | assumption)
              obtain ⟨ad165, e165, hx165_0⟩ := Kd.at_int HR0.out x8_1 p165 q165
              cases e165
              replace p165 := eq_true p165
              replace q165 := eq_true q165
              go_wp2
              go_ret
              exact ⟨by first | rfl | (simp; done) | (simp [*]; done), by repeat (first | exact Drawn0.refl _ | apply Drawn0.step)⟩
            · rw [if_neg c6] at H
              have c6b0 : (a1 == (rd l0 x8_1)) = false := beq_eq_false_iff_ne.mpr c6
              have c6b1 : (a1 != (rd l0 x8_1)) = true := bne_iff_ne.mpr c6
              have H' := Aside0.mk H
              clear H
              have p165 : 0 ≤ (x8_1 : Int) := of_decide_eq_true (by first | (with_reducible assumption) | assumption)
              have q165 : x8_1 < (l0.length : Int) := of_decide_eq_true (by first | (with_reducible assumption) | assumption)
              obtain ⟨ad165, e165, hx165_0⟩ := Kd.at_int HR0.out x8_1 p165 q165
              cases e165
              replace p165 := eq_true p165
              replace q165 := eq_true q165
              go_wp2
              go_roundg k1
              case measure => have := HK1.out; omega
              case rel => exact ⟨(wrap64 (x8_1 + 1)), (by first | rfl | (simp; done) | (simp [*]; done)), H', ⟨by have := HK1.out; omega⟩, by repeat (first | exact Drawn0.refl _ | apply Drawn0.step)⟩
          · rw [if_neg c5] at H
            exact absurd H (by simp)
        · rw [if_neg c4] at H
          exact absurd H (by simp)
      · rw [if_neg c3] at H
        have c3b0 : decide (x8_1 < (l0.length : Int)) = false := decide_eq_false c3
        clear c3
        obtain rfl := Option.some.inj H
        go_wp2
        go_ret
        exact ⟨by first | rfl | (simp; done) | (simp [*]; done), by repeat (first | exact Drawn0.refl _ | apply Drawn0.step)⟩

/-! ### slices_Contains_int64_int64: function 71 -/
def slices_Contains_int64_int64.f (k : Nat) (l0 : List Int) (a1 : Int) : Option (Bool) := (slices_Index_int64_int64.f k l0 a1).bind fun t166 => (some (decide (t166 ≥ 0)))
theorem slices_Contains_int64_int64.mono : ∀ a0 a1 k, LeO (slices_Contains_int64_int64.f k a0 a1) (slices_Contains_int64_int64.f (k + 1) a0 a1) := by
  intro a0 a1 k
  unfold slices_Contains_int64_int64.f
  repeat' first
      | (with_reducible exact slices_Index_int64_int64.mono _ _ _)
      | (with_reducible exact LeO.refl _)
      | (with_reducible exact LeO.none _)
      | (with_reducible refine LeO.ite ?_ ?_)
      | (with_reducible refine LeO.bind ?_ (fun _ => ?_))
      | exact slices_Index_int64_int64.mono _ _ _
      | exact LeO.none _
      | refine LeO.ite ?_ ?_
      | refine LeO.bind ?_ (fun _ => ?_)
set_option maxHeartbeats 8000000 in
set_option maxRecDepth 100000 in
theorem slices_Contains_int64_int64.calls (k : Nat) (A0 : Option Addr) (c0 : Nat) (l0 : List Int) (a1 : Int) (r : Bool) (w : World) (hr0 : Kd.C (Kd.int .i64) w A0 l0.length l0) (hc0 : l0.length ≤ c0) (h : slices_Contains_int64_int64.f k l0 a1 = some r) :
    Calls Try.prog 71 #[.slice A0 l0.length c0, .int .i64 a1] w fun e w' => e = .returned (.bool r) ∧ Drawn0 w w' := by
  have HR0 := Aside0.mk hr0
  have HC0 := Aside0.mk hc0
  clear hr0 hc0
  have H : ((slices_Index_int64_int64.f k l0 a1).bind fun t166 => (some (decide (t166 ≥ 0)))) = some r := h
  clear h
  replace H := Option.bind_eq_some_iff.mp H
  obtain ⟨t166, A30, H⟩ := H
  replace H : (some (decide (t166 ≥ 0))) = some r := H
  have A3 := Aside0.mk A30
  clear A30
  obtain rfl := Option.some.inj H
  go_enter Try.func71, Try.ntmps71
  go_wp2_with (first | ((with_reducible refine gate_callee (f := 91) rfl ?_); refine goesL_ (some 7) rfl rfl Try.func91 (by kernel_rfl) rfl #[.slice A0 l0.length c0, .int .i64 a1] rfl (by (try simp only [List.map_toArray, List.map_cons, List.map_nil]); first | done | rfl | (simp only [List.length_drop, List.length_take]; rfl)) ?_; (with_reducible refine (slices_Index_int64_int64.calls k _ _ l0 a1 t166 _ ?side1 ?side2 A3.out).mono ?_); (case side1 => repeat (first | exact HR0.out | (with_reducible refine Kd.C_alloc ?_ _) | (with_reducible refine Kd.C_drewN ?_ _) | (with_reducible refine Kd.C_drew ?_))); (case side2 => exact HC0.out); rintro e w' ⟨rfl, ⟨nd, rfl⟩⟩; refine ⟨_, rfl, ?_⟩))
  go_ret
  exact ⟨by first | rfl | (simp; done) | (simp [*]; done), by repeat (first | exact Drawn0.refl _ | apply Drawn0.step)⟩

/-! ### impl_free: function 69: this session's own text -/
/-- An append of one element to a row of the call's own, as one step of a region that draws its order. -/
theorem step_append_own {P : Program} {ops : Array Oper} {o : Oper} {a : Act} {Q : Exit → Act → World → Prop} {K : Act → World → Prop} {E : Prop} {α : Type} {W w : World} (d : Kd α) (base : Nat)
    (hw : Region.wanted o (yielded ops a.tmps) = true) (s x : Operand) (t e : TypeId) (hop : o.op = .call { callee := .builtin .append, args := #[s, x], argTypes := #[t, t] }) (z : Value) (bytes : Nat)
    (ht : P.underlying t = some (.slice e)) (hinfo : (P.info? e).map (fun i => (i.zero, i.size, i.bytes)) = some (some z, d.sz, bytes)) (hz : z.cells.size = d.sz) (hs0 : 0 < d.sz) (hb0 : 0 < bytes)
    (v : Value) (xs : List α) (p : α) (cs : List Value) (ok okp : Nat → Prop) (hwd : w = W.alloc (.cells cs.toArray e)) (hs : a.eval s = v) (hx : a.eval x = .slice (some ⟨W.heap.size, 0, none⟩) 1 1) (hp : d.M W base okp p cs) (hokp : ∀ k, okp k → ok k ∧ some k ≠ v.ownBlock) (hfresh : ∀ k, W.heap.size ≤ k → ok k)
    (HO : d.R e W base ok v xs) (hbase : base ≤ W.heap.size) (hl : (xs.length + 1) * bytes ≤ 140737488355328)
    (h : ∀ v1 w1, d.R e w1 base ok v1 (xs ++ [p]) → Below base W w1 → W.grownBy w1 v.ownBlock → (v1.ownBlock = v.ownBlock ∨ ∃ b, v1.ownBlock = some b ∧ W.heap.size ≤ b) → K (a.put o.dst v1) w1) :
    if Region.wanted o (yielded ops a.tmps) = true then Oper.wp P o a w K Q else E := by
  subst hwd
  have := Kd.R_append_step (Kc := K) (P := P) (Q := Q) d (w0 := W) base hw s x t e z bytes hop ht hinfo hz hs0 hb0 v xs p cs ok okp hs hx hp hokp hfresh HO (Below.refl _ _) hbase hl h
  rw [if_pos hw] at this ⊢
  exact this

theorem index64_l0 (l : List Int) (a : Int) (hl : l.length ≤ 1152921504606846976) : ∀ (d : Nat) (i : Int) (k : Nat), 0 ≤ i → i.toNat + d = l.length → d < k →
    ∃ r : Int, slices_Index_int64_int64.l0 k l a (l.length : Int) i = some r ∧ (r ≥ 0 ↔ (l.drop i.toNat).contains a = true) := by
  intro d
  induction d with
  | zero =>
    intro i k h0 hd hk
    obtain ⟨k, rfl⟩ : ∃ m, k = m + 1 := ⟨k - 1, by omega⟩
    refine ⟨-1, ?_, ?_⟩
    · simp only [slices_Index_int64_int64.l0]
      rw [if_neg (by omega)]
    · rw [List.drop_eq_nil_of_le (by omega)]
      simp
  | succ d ih =>
    intro i k h0 hd hk
    obtain ⟨k, rfl⟩ : ∃ m, k = m + 1 := ⟨k - 1, by omega⟩
    have hi : i < (l.length : Int) := by omega
    rw [drop_rd 0 h0 hi]
    simp only [slices_Index_int64_int64.l0]
    rw [if_pos hi, if_pos h0, if_pos hi, w64_in (by omega) (by omega)]
    by_cases e : a = rd l i
    · rw [if_pos e]
      exact ⟨i, rfl, by rw [e, rd]; simp; omega⟩
    · rw [if_neg e]
      obtain ⟨r, h1, h2⟩ := ih (i + 1) k (by omega) (by omega) (by omega)
      refine ⟨r, h1, h2.trans ?_⟩
      rw [List.contains_cons]
      have : (a == l.getD i.toNat 0) = false := by simpa [rd] using e
      rw [this, Bool.false_or]
theorem contains64_is (l : List Int) (a : Int) (hl : l.length ≤ 1152921504606846976) : slices_Contains_int64_int64.f (l.length + 1) l a = some (l.contains a) := by
  obtain ⟨r, h1, h2⟩ := index64_l0 l a hl l.length 0 (l.length + 1) (by omega) (by simp) (by omega)
  unfold slices_Contains_int64_int64.f slices_Index_int64_int64.f
  rw [h1]
  simp only [Option.bind_some, Option.some.injEq]
  by_cases hr : r ≥ 0
  · rw [decide_eq_true hr]
    exact (h2.1 hr).symm
  · rw [decide_eq_false hr]
    cases hc : l.contains a with
    | false => rfl
    | true => exact absurd (h2.2 hc) hr

/-- The chains over one, in the covers' order. -/
def coverF (l : List S64) (c : Int) : List Int := (l.filter (fun x => x.f1 == c)).map (fun x => x.f0)
theorem coverF_mem {l : List S64} {c y : Int} : y ∈ coverF l c ↔ ∃ x ∈ l, x.f1 = c ∧ x.f0 = y := by
  unfold coverF
  rw [List.mem_map]
  constructor
  · rintro ⟨x, hx, e⟩
    obtain ⟨h1, h2⟩ := List.mem_filter.1 hx
    exact ⟨x, h1, by simpa using h2, e⟩
  · rintro ⟨x, h1, h2, h3⟩
    exact ⟨x, List.mem_filter.2 ⟨h1, by simpa using h2⟩, h3⟩
theorem coverF_nodup {l : List S64} (h : l.Nodup) (c : Int) : (coverF l c).Nodup := by
  induction l with
  | nil => simp [coverF]
  | cons x l ih =>
    obtain ⟨h1, h2⟩ := List.nodup_cons.1 h
    have I := ih h2
    unfold coverF at I ⊢
    rw [List.filter_cons]
    by_cases e : (x.f1 == c) = true
    · rw [if_pos e, List.map_cons]
      refine List.nodup_cons.2 ⟨fun m => ?_, I⟩
      have m' : x.f0 ∈ coverF l c := m
      obtain ⟨y, hy, g1, g2⟩ := coverF_mem.1 m'
      apply h1
      have e' : x.f1 = c := by simpa using e
      have : y = x := by
        cases x; cases y
        simp only at g1 g2 e'
        subst g1 g2 e'
        rfl
      rw [← this]; exact hy
    · rw [if_neg e]; exact I
theorem nodup_le : ∀ (r s : List Int), r.Nodup → (∀ x ∈ r, x ∈ s) → r.length ≤ s.length
  | [], s, _, _ => Nat.zero_le _
  | x :: r, s, hn, hs => by
    obtain ⟨h1, h2⟩ := List.nodup_cons.1 hn
    have hx := hs x List.mem_cons_self
    have hle := List.length_erase_of_mem hx
    have hpos := List.length_pos_of_mem hx
    have := nodup_le r (s.erase x) h2 (fun y hy => (List.mem_erase_of_ne (fun e => by rw [e] at hy; exact h1 hy)).2 (hs y (List.mem_cons_of_mem _ hy)))
    simp only [List.length_cons]
    omega
theorem perm_of_mem {r s : List Int} (hr : r.Nodup) (hs : s.Nodup) (h : ∀ x, x ∈ r ↔ x ∈ s) : r.Perm s :=
  perm_of_sub r s hr (fun x hx => (h x).1 hx) (nodup_le s r hs (fun x hx => (h x).2 hx))
/-- A sorted list without repeats is the sorted one of the same members. -/
theorem sort_unique {r s : List Int} (hr : r.Pairwise (fun a b => a < b)) (hs : s.Nodup) (h : ∀ x, x ∈ r ↔ x ∈ s) : r = sort64 s := by
  have hp : (sort64 s).Perm s := List.mergeSort_perm ..
  have hq : r.Perm s := perm_of_mem (hr.imp (fun h => by omega)) hs h
  refine List.Perm.eq_of_pairwise (le := fun a b => decide (a ≤ b) = true) (fun a b _ _ hab hba => ?_) ?_ ?_ (hq.trans hp.symm)
  · have := of_decide_eq_true hab
    have := of_decide_eq_true hba
    omega
  · exact hr.imp (fun h => decide_eq_true (by omega))
  · exact List.pairwise_mergeSort (fun a b c h1 h2 => decide_eq_true (by have := of_decide_eq_true h1; have := of_decide_eq_true h2; omega)) (fun a b => by
      rcases Int.le_total a b with h | h
      · rw [decide_eq_true h]; rfl
      · rw [decide_eq_true (p := b ≤ a) h, Bool.or_true]) s

theorem coveredBy_l0 (l : List S64) (c : Int) (hl : l.length ≤ 1048576) (h8 : ∀ x ∈ l, InC x) : ∀ (rest : List S64) (p k : Nat) (acc : List Int), l.drop p = rest → rest.length < k → acc.length ≤ p → p ≤ l.length → impl_coveredBy.l0 k c acc l (l.length : Int) (p : Int) = some (sort64 (acc ++ coverF rest c)) := by
  intro rest
  induction rest with
  | nil =>
    intro p k acc hd hk ha hpl
    obtain ⟨k, rfl⟩ : ∃ m, k = m + 1 := ⟨k - 1, by simp at hk; omega⟩
    have := of_drop_nil hd
    simp only [impl_coveredBy.l0, coverF, List.filter_nil, List.map_nil, List.append_nil]
    rw [if_neg (by omega)]
    unfold slices_Sort_int64_int64.f
    rw [if_pos (by omega)]
    rfl
  | cons y rest ih =>
    intro p k acc hd hk ha hpl
    simp only [List.length_cons] at hk
    obtain ⟨k, rfl⟩ : ∃ m, k = m + 1 := ⟨k - 1, by omega⟩
    obtain ⟨hp, hd', hx⟩ := of_drop hd
    have hin := h8 y (List.mem_of_mem_drop (by rw [hd]; exact List.mem_cons_self))
    have i0 := hin.1
    have i1 := hin.2
    simp only [impl_coveredBy.l0, rd_T64, hx, coverF, List.filter_cons]
    rw [if_pos (by omega), if_pos (by omega), if_pos (by omega), w64_id (a := y.f0) (by omega), w64_id (a := y.f1) (by omega), step64 hp (by omega)]
    by_cases e : y.f1 = c
    · rw [if_pos e, if_pos (by omega), if_pos (beq_iff_eq.2 e), ih (p + 1) k (acc ++ [y.f0]) hd' (by omega) (by simp; omega) (by omega)]
      simp [coverF]
    · rw [if_neg e, if_neg (by simpa using e), ih (p + 1) k acc hd' (by omega) (by omega) (by omega)]
      rfl
theorem coveredBy_is (l : List S64) (c : Int) (hl : l.length ≤ 1048576) (h8 : ∀ x ∈ l, InC x) (k : Nat) (hk : l.length < k) : impl_coveredBy.f k l c = some (sort64 (coverF l c)) := by
  unfold impl_coveredBy.f
  have := coveredBy_l0 l c hl h8 l 0 k [] rfl hk (by simp) (by omega)
  simpa using this

theorem own_step {W W' : World} {B : Nat} {v : Value} {xs : List Int} (h : Kd.R (Kd.int .i64) 2 W B (fun _ => True) v xs) (hm : ∀ k, B ≤ k → k < W.heap.size → W'.heap[k]? = W.heap[k]?) : Kd.R (Kd.int .i64) 2 W' B (fun _ => True) v xs :=
  Kd.R_mono (Kd.R_step (Kd.R_bound h) (fun k hk hlt => hm k hk.2.1 hlt)) (fun _ _ => trivial)
theorem own_only {S : Nat → Prop} {W W' : World} {B : Nat} {v : Value} {xs : List Int} (h : Kd.R (Kd.int .i64) 2 W B (fun _ => True) v xs) (k : Only S W W') (hs : ∀ i, S i → i < B) : Kd.R (Kd.int .i64) 2 W' B (fun _ => True) v xs :=
  own_step h (fun i hi hlt => k.block i hlt (fun g => by have := hs i g; omega))

theorem free1_calls (p : Nat) (A : Option Addr) (c : Nat) (th : List Int) (o : Int) (W : World) (hb : W.cell? ⟨p, 0, none⟩ = some (.slice A th.length c)) (hC : Kd.C (Kd.int .i64) W A th.length th) (hc : th.length ≤ c) (hl : th.length ≤ 1048576) :
    Calls Try.prog 93 #[.int .i64 o, .pointer (some ⟨p, 0, none⟩)] W fun e w' => e = .returned (.bool (th.contains o)) ∧ Below W.heap.size W w' := by
  have hca : Aside0 (∀ W1, Below W.heap.size W W1 → Calls Try.prog 71 #[.slice A th.length c, .int .i64 o] W1 fun e w' => e = .returned (.bool (th.contains o)) ∧ Drawn0 W1 w') := ⟨fun W1 h1 => slices_Contains_int64_int64.calls (th.length + 1) A c th o _ W1 (Kd.C_below hC h1) hc (contains64_is th o (by omega))⟩
  have HB := Aside0.mk (Below.refl W.heap.size W)
  clear hC hc hl
  go_enter Try.func93, Try.ntmps93
  go_wp2_with (first | (go_at_call 71; refine (hca.out _ (by repeat (first | (with_reducible exact HB.out) | apply pw_below_drewN | apply below_drew))).mono ?_; rintro e w1 ⟨rfl, hd⟩; have HD := Aside0.mk (HB.out.trans (hd.below.mono HB.out.size)); clear hd))
  go_ret
  exact ⟨by first | rfl | (simp; done), HD.out⟩
/-- Is there one that lies in a list? -/
def anyIn (th ys : List Int) : Bool := ys.any (fun o => th.contains o)
set_option maxHeartbeats 2000000 in
theorem indexFree_calls (p : Nat) (A : Option Addr) (c : Nat) (th : List Int) (A2 : Option Addr) (c2 : Nat) (ys : List Int) (W : World) (hb : W.cell? ⟨p, 0, none⟩ = some (.slice A th.length c)) (hC : Kd.C (Kd.int .i64) W A th.length th) (hc : th.length ≤ c) (hl : th.length ≤ 1048576)
    (hC2 : Kd.C (Kd.int .i64) W A2 ys.length ys) (hc2 : ys.length ≤ c2) (hl2 : ys.length ≤ 1048576) :
    Calls Try.prog 103 #[.slice A2 ys.length c2, .func (.func 93) #[] #[.pointer (some ⟨p, 0, none⟩)]] W fun e w' => ∃ r : Int, e = .returned (.int .i64 r) ∧ (r ≥ 0 ↔ anyIn th ys = true) ∧ Below W.heap.size W w' := by
  have hcl : Aside0 (∀ W1 o, Below W.heap.size W W1 → Calls Try.prog 93 #[.int .i64 o, .pointer (some ⟨p, 0, none⟩)] W1 fun e w' => e = .returned (.bool (th.contains o)) ∧ Below W1.heap.size W1 w') := ⟨fun W1 o h1 => free1_calls p A c th o W1 ((h1.cell (World.block_lt_of_cell? _ _ hb)).trans hb) (Kd.C_below hC h1) hc hl⟩
  have HR0 := Aside0.mk hC2
  have HC0 := Aside0.mk (And.intro hc2 hl2)
  have HB := Aside0.mk (Below.refl W.heap.size W)
  clear hC hc hl hC2 hc2 hl2 hb
  go_enter Try.func103, Try.ntmps103
  go_wp2
  go_loopg [8] ys.length (fun gk v8 w' => ∃ x : Nat, v8 = .int .i64 x ∧ Aside0 (x + gk = ys.length) ∧ Aside0 (anyIn th ys = anyIn th (ys.drop x)) ∧ Aside0 (Below W.heap.size W w'))
  case atStart => exact ⟨0, rfl, ⟨by omega⟩, ⟨rfl⟩, HB⟩
  case round =>
    clear HB
    obtain ⟨x, rfl, HK, HA, HB⟩ := hrel
    by_cases c3 : (x : Int) < (ys.length : Int)
    · have p0 : 0 ≤ (x : Int) := by omega
      have hxn : x < ys.length := by omega
      obtain ⟨ad1, e1, hx1_0⟩ := Kd.at_int HR0.out x p0 c3
      cases e1
      replace hx1_0 := (HB.out.cell (World.block_lt_of_cell? W _ hx1_0)).trans hx1_0
      simp only [Int.toNat_natCast] at hx1_0
      have hrd : rd ys x = ys[x] := by rw [rd, Int.toNat_natCast, List.getD_eq_getElem?_getD, List.getElem?_eq_getElem hxn]; rfl
      have hdr : anyIn th (ys.drop x) = (th.contains (rd ys x) || anyIn th (ys.drop (x + 1))) := by
        rw [hrd, List.drop_eq_getElem_cons hxn]
        rfl
      have HX : Aside0 (wrap64 ((x : Int) + 1) = ((x + 1 : Nat) : Int)) := ⟨by have := HC0.out; unfold wrap64; omega⟩
      have c3b : decide ((x : Int) < (ys.length : Int)) = true := decide_eq_true c3
      have c3n : decide (x < ys.length) = true := decide_eq_true hxn
      have p0b : decide (0 ≤ (x : Int)) = true := decide_eq_true p0
      cases hb : th.contains (rd ys x) with
      | true =>
        have HE : Aside0 ((x : Int) ≥ 0 ↔ anyIn th ys = true) := ⟨by rw [HA.out, hdr, hb]; simp⟩
        clear c3 hdr hrd
        go_wp2_with (first | (go_at_call 93; refine (hcl.out _ _ HB.out).mono ?_; rintro e w1 ⟨rfl, hb1⟩; rw [hb]; have HB1 := Aside0.mk (HB.out.trans (hb1.mono HB.out.size)); clear hb1))
        go_ret
        exact ⟨x, rfl, HE.out, HB1.out⟩
      | false =>
        have HE : Aside0 (anyIn th ys = anyIn th (ys.drop (x + 1))) := ⟨by rw [HA.out, hdr, hb, Bool.false_or]⟩
        clear c3 hdr hrd
        go_wp2_with (first | (go_at_call 93; refine (hcl.out _ _ HB.out).mono ?_; rintro e w1 ⟨rfl, hb1⟩; rw [hb]; have HB1 := Aside0.mk (HB.out.trans (hb1.mono HB.out.size)); clear hb1))
        go_roundg (gk - 1)
        case measure => have := HK.out; omega
        case rel => exact ⟨x + 1, by first | rfl | rw [HX.out], ⟨by have := HK.out; omega⟩, HE, HB1⟩
    · have c3b : decide ((x : Int) < (ys.length : Int)) = false := decide_eq_false c3
      have c3n : decide (x < ys.length) = false := decide_eq_false (by omega)
      have HE : Aside0 ((-1 : Int) ≥ 0 ↔ anyIn th ys = true) := ⟨by rw [HA.out, List.drop_eq_nil_of_le (by omega)]; simp [anyIn]⟩
      clear c3
      go_wp2
      go_ret
      exact ⟨-1, rfl, HE.out, HB.out⟩
theorem containsFree_calls (p : Nat) (A : Option Addr) (c : Nat) (th : List Int) (A2 : Option Addr) (c2 : Nat) (ys : List Int) (W : World) (hb : W.cell? ⟨p, 0, none⟩ = some (.slice A th.length c)) (hC : Kd.C (Kd.int .i64) W A th.length th) (hc : th.length ≤ c) (hl : th.length ≤ 1048576)
    (hC2 : Kd.C (Kd.int .i64) W A2 ys.length ys) (hc2 : ys.length ≤ c2) (hl2 : ys.length ≤ 1048576) :
    Calls Try.prog 92 #[.slice A2 ys.length c2, .func (.func 93) #[] #[.pointer (some ⟨p, 0, none⟩)]] W fun e w' => e = .returned (.bool (anyIn th ys)) ∧ Below W.heap.size W w' := by
  have hcl : Aside0 (Calls Try.prog 103 #[.slice A2 ys.length c2, .func (.func 93) #[] #[.pointer (some ⟨p, 0, none⟩)]] W fun e w' => ∃ r : Int, e = .returned (.int .i64 r) ∧ (r ≥ 0 ↔ anyIn th ys = true) ∧ Below W.heap.size W w') := ⟨indexFree_calls p A c th A2 c2 ys W hb hC hc hl hC2 hc2 hl2⟩
  clear hb hC hc hl hC2 hc2 hl2
  go_enter Try.func92, Try.ntmps92
  go_wp2_with (first | (go_at_call 103; refine hcl.out.mono ?_; rintro e w1 ⟨r, rfl, hr, hb1⟩; have HR := Aside0.mk hr; have HB1 := Aside0.mk hb1; clear hr hb1))
  go_ret
  refine ⟨?_, HB1.out⟩
  have : decide (r ≥ 0) = anyIn th ys := by
    have := HR.out
    cases h : anyIn th ys with
    | true => exact decide_eq_true (this.2 h)
    | false => exact decide_eq_false (fun g => by rw [this.1 g] at h; cases h)
  simp [this]
/-- The chains of some over which none of them lies. -/
def freeL (l : List S64) (th : List Int) : List Int := th.filter (fun c => !anyIn th (sort64 (coverF l c)))
def impl_free.f (l0 : List S64) (l1 : List Int) : Option (List Int) := if l0.length ≤ 1048576 ∧ (∀ x ∈ l0, (-128 ≤ x.f0 ∧ x.f0 ≤ 127) ∧ (-128 ≤ x.f1 ∧ x.f1 ≤ 127)) ∧ l1.length ≤ 1048576 then some (freeL l0 l1) else none
set_option maxHeartbeats 4000000 in
set_option maxRecDepth 100000 in
theorem impl_free.calls (A0 : Option Addr) (c0 : Nat) (l0 : List (S64)) (A1 : Option Addr) (c1 : Nat) (l1 : List Int) (r : List Int) (w : World) (hr0 : Kd.C k64 w A0 l0.length l0) (hc0 : l0.length ≤ c0) (hr1 : Kd.C (Kd.int .i64) w A1 l1.length l1) (hc1 : l1.length ≤ c1) (h : impl_free.f l0 l1 = some r) :
    Calls Try.prog 69 #[.slice A0 l0.length c0, .slice A1 l1.length c1] w fun e w' => ∃ v0_ : Value, e = .returned v0_ ∧ Kd.R (Kd.int .i64) 2 w' w.heap.size (fun _ => True) v0_ r ∧ Below w.heap.size w w' := by
  unfold impl_free.f at h
  by_cases hh : l0.length ≤ 1048576 ∧ (∀ x ∈ l0, (-128 ≤ x.f0 ∧ x.f0 ≤ 127) ∧ (-128 ≤ x.f1 ∧ x.f1 ≤ 127)) ∧ l1.length ≤ 1048576
  · rw [if_pos hh] at h
    obtain rfl := Option.some.inj h
    have hmf : ∀ (fn : Fn) (first cap : Array Value) (w : World), (Instr.makeFunc fn first cap).run Try.prog w = .ok (.func fn first cap) w := fun _ _ _ _ => rfl
    have hcb : Aside0 (∀ W c, Below w.heap.size w W → Calls Try.prog 57 #[.slice A0 l0.length c0, .int .i64 c] W fun e w' => ∃ v0_ : Value, e = .returned v0_ ∧ Kd.R (Kd.int .i64) 2 w' W.heap.size (fun _ => True) v0_ (sort64 (coverF l0 c)) ∧ Below W.heap.size W w') := ⟨fun W c hW => impl_coveredBy.calls (l0.length + 1) A0 c0 l0 c _ W (Kd.C_below hr0 hW) hc0 (coveredBy_is l0 c hh.1 hh.2.1 _ (by omega))⟩
    have hcf : Aside0 (∀ W A2 c2 c, Below w.heap.size w W → W.cell? ⟨w.heap.size, 0, none⟩ = some (.slice A1 l1.length c1) → Kd.C (Kd.int .i64) W A2 (sort64 (coverF l0 c)).length (sort64 (coverF l0 c)) → (sort64 (coverF l0 c)).length ≤ c2 → Calls Try.prog 92 #[.slice A2 (sort64 (coverF l0 c)).length c2, .func (.func 93) #[] #[.pointer (some ⟨w.heap.size, 0, none⟩)]] W fun e w' => e = .returned (.bool (anyIn l1 (sort64 (coverF l0 c)))) ∧ Below W.heap.size W w') := ⟨fun W A2 c2 c hW hb h1 h2 => containsFree_calls w.heap.size A1 c1 l1 A2 c2 _ W hb (Kd.C_below hr1 hW) hc1 hh.2.2 h1 h2 (by
      rw [sort64_length, coverF, List.length_map]
      exact Nat.le_trans (List.length_filter_le _ _) hh.1)⟩
    have HR1 := Aside0.mk hr1
    have HH := Aside0.mk hh.2.2
    have HB := Aside0.mk (Below.refl w.heap.size w)
    clear hh hr0 hc0 hr1 hc1 h
    go_enter Try.func69, Try.ntmps69
    go_wp2
    go_loopg [5, 11] l1.length (fun gk v5 v11 w' => ∃ x : Nat, v11 = .int .i64 x ∧ Aside0 (x + gk = l1.length) ∧ Aside0 (Kd.R (Kd.int .i64) 2 w' (w.heap.size + 1) (fun _ => True) v5 ((l1.take x).filter (fun c => !anyIn l1 (sort64 (coverF l0 c))))) ∧ Aside0 (w'.heap[w.heap.size]? = some (.cells #[.slice A1 l1.length c1] 24 (0, 0))) ∧ Aside0 (Below w.heap.size w w'))
    case atStart =>
      have s1 : (w.alloc (.cells #[.slice A1 l1.length c1] 24)).heap.size = w.heap.size + 1 := by simp
      have b1 := empty_lit (W := w.alloc (.cells #[.slice A1 l1.length c1] 24)) (base := w.heap.size + 1) (e := 2) (by rw [s1]; omega)
      rw [s1] at b1
      exact ⟨0, rfl, ⟨by omega⟩, ⟨b1⟩, ⟨blk_alloc (blk_new w _) _⟩, ⟨below_alloc (below_alloc HB.out _) _⟩⟩
    case round =>
      clear HB
      obtain ⟨x, rfl, HK, HO, HX0, HB⟩ := hrel
      by_cases c3 : (x : Int) < (l1.length : Int)
      · have p0 : 0 ≤ (x : Int) := by omega
        have hxn : x < l1.length := by omega
        obtain ⟨ad1, e1, hx1_0⟩ := Kd.at_int HR1.out x p0 c3
        cases e1
        replace hx1_0 := (HB.out.cell (World.block_lt_of_cell? w _ hx1_0)).trans hx1_0
        simp only [Int.toNat_natCast] at hx1_0
        have hrd : rd l1 x = l1[x] := by rw [rd, Int.toNat_natCast, List.getD_eq_getElem?_getD, List.getElem?_eq_getElem hxn]; rfl
        obtain ⟨cc, hcc⟩ : ∃ cc, cc = rd l1 x := ⟨_, rfl⟩
        rw [← hcc] at hx1_0
        have HT : Aside0 ((l1.take (x + 1)).filter (fun c => !anyIn l1 (sort64 (coverF l0 c))) = (l1.take x).filter (fun c => !anyIn l1 (sort64 (coverF l0 c))) ++ (if anyIn l1 (sort64 (coverF l0 cc)) = true then [] else [cc])) := ⟨by
          rw [List.take_succ_eq_append_getElem hxn, List.filter_append, ← hrd, ← hcc]
          cases hq : anyIn l1 (sort64 (coverF l0 cc)) <;> simp [hq]⟩
        have HX : Aside0 (wrap64 ((x : Int) + 1) = ((x + 1 : Nat) : Int)) := ⟨by have := HH.out; unfold wrap64; omega⟩
        have HLN : Aside0 (((l1.take x).filter (fun c => !anyIn l1 (sort64 (coverF l0 c)))).length ≤ 1048576 ∧ w.heap.size + 1 ≤ wr.heap.size) := ⟨Nat.le_trans (List.length_filter_le _ _) (by rw [List.length_take]; have := HH.out; omega), blk_lt HX0.out⟩
        have c3b : decide ((x : Int) < (l1.length : Int)) = true := decide_eq_true c3
        have c3n : decide (x < l1.length) = true := decide_eq_true hxn
        have p0b : decide (0 ≤ (x : Int)) = true := decide_eq_true p0
        generalize hys : (l1.take x).filter (fun c => !anyIn l1 (sort64 (coverF l0 c))) = acc at HO HT HLN
        clear hys c3 hrd hcc
        cases hb : anyIn l1 (sort64 (coverF l0 cc)) with
        | true =>
          rw [hb, if_pos rfl, List.append_nil] at HT
          go_wp2_with (first | (go_at_call 57; refine (hcb.out _ _ HB.out).mono ?_; rintro e w1 ⟨v1, rfl, hv1, hb1⟩; obtain ⟨A2, c2, rfl, hc2, hr2⟩ := Kd.R_reads hv1; have HV1 := Aside0.mk (And.intro hr2 hc2); have HB1 := Aside0.mk (HB.out.trans (hb1.mono HB.out.size)); have HW1 := Aside0.mk hb1; clear hv1 hb1 hc2 hr2) | (go_at_call 92; refine (hcf.out _ _ _ _ HB1.out (blk_cell ((HW1.out.block _ (blk_lt HX0.out)).trans HX0.out) 0) HV1.out.1 HV1.out.2).mono ?_; rintro e w2 ⟨rfl, hb2⟩; rw [hb]; have HB2 := Aside0.mk (HB1.out.trans (hb2.mono HB1.out.size)); have HW2 := Aside0.mk (HW1.out.trans (hb2.mono HW1.out.size)); clear hb2))
          go_roundg (gk - 1)
          case measure => have := HK.out; omega
          case rel => exact ⟨x + 1, by first | rfl | rw [HX.out], ⟨by have := HK.out; omega⟩, ⟨by rw [HT.out]; exact Kd.R_below HO.out HW2.out⟩, ⟨(HW2.out.block _ (blk_lt HX0.out)).trans HX0.out⟩, HB2⟩
        | false =>
          rw [hb, if_neg (by simp)] at HT
          go_wp2_with (first | (go_at_call 57; refine (hcb.out _ _ HB.out).mono ?_; rintro e w1 ⟨v1, rfl, hv1, hb1⟩; obtain ⟨A2, c2, rfl, hc2, hr2⟩ := Kd.R_reads hv1; have HV1 := Aside0.mk (And.intro hr2 hc2); have HB1 := Aside0.mk (HB.out.trans (hb1.mono HB.out.size)); have HW1 := Aside0.mk hb1; clear hv1 hb1 hc2 hr2) | (go_at_call 92; refine (hcf.out _ _ _ _ HB1.out (blk_cell ((HW1.out.block _ (blk_lt HX0.out)).trans HX0.out) 0) HV1.out.1 HV1.out.2).mono ?_; rintro e w2 ⟨rfl, hb2⟩; rw [hb]; have HB2 := Aside0.mk (HB1.out.trans (hb2.mono HB1.out.size)); have HW2 := Aside0.mk (HW1.out.trans (hb2.mono HW1.out.size)); clear hb2) | ((with_reducible refine gate_builtin (b := .append) (xs := #[.tmp 21, .tmp 23]) rfl ?_); at_builtin; refine Kd.R_append (Kd.int .i64) (w0 := w2) (w.heap.size + 1) rfl (.tmp 21) (.tmp 23) 24 2 (.int .i64 0) 8 rfl Try.underlying24 info2 rfl (by decide) (by omega) u5 acc cc [.int .i64 cc] (fun _ => True) (fun _ => False) rfl rfl ?aP (fun _ hk => hk.elim) ?aF ?aO ?aB ?aS ?aL ?_; (case aP => exact rfl); (case aB => exact Below.refl _ _); (case aF => exact (fun _ _ => trivial)); (case aO => exact Kd.R_below HO.out HW2.out); (case aS => exact Nat.le_trans HLN.out.2 HW2.out.size); (case aL => have := HLN.out.1; omega); intro v3 w3 ho hb3 hg hat; have HO3 := Aside0.mk ho; have HW3 := Aside0.mk hb3; clear ho hb3 hg hat))
          go_roundg (gk - 1)
          case measure => have := HK.out; omega
          case rel => exact ⟨x + 1, by first | rfl | rw [HX.out], ⟨by have := HK.out; omega⟩, ⟨by rw [HT.out]; exact HO3.out⟩, ⟨((HW3.out.block _ (by omega)).trans (HW2.out.block _ (blk_lt HX0.out))).trans HX0.out⟩, ⟨HB2.out.trans (HW3.out.mono (by omega))⟩⟩
      · have c3b : decide ((x : Int) < (l1.length : Int)) = false := decide_eq_false c3
        have c3n : decide (x < l1.length) = false := decide_eq_false (by omega)
        have hx : l1.take x = l1 := List.take_of_length_le (by omega)
        rw [hx] at HO
        clear c3 hx
        go_wp2
        go_ret
        exact ⟨_, by first | rfl | (simp; done), Kd.R_lower HO.out (by omega), HB.out⟩
  · rw [if_neg hh] at h; cases h

end Go.Proofs.Ytjcdgimldhodiaa.PFnExactEarliestLeave
