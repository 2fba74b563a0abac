/- Printed by this session's plus.py out of the translation, some functions' texts being this session's own. -/
import Derived.Test.YtpimdgkofgendaaPFnExactShortestQuayx0
import Derived.Test.YtpimdgkofgendaaPFnExactShortestQuayx6
namespace Go.Proofs.Ytpimdgkofgendaa.PFnExactShortestQuay
open Go.RowKit Go.Proofs.YtpimdgkofgendaaW.PrintWords Go.Proofs.YtpimdgkofgendaaW.PrintLast Go.Proofs.YtpimdgkofgendaaW.PrintMore
attribute [local go_sem] max2_int min2_int max_two min_two max_three min_three max_four min_four   -- for this text's walks alone
set_option linter.unusedVariables false
set_option linter.unusedSimpArgs false

/-! ### impl_wrong: function 52 -/
def impl_wrong.l0 : Nat → List (S59) → Int → Option (Int)
  | 0, _, _ => none
  | k + 1, x0, x3 => if x3 < (x0.length : Int) then (if 0 ≤ (wrap64 (x3 - 1)) then (if (wrap64 (x3 - 1)) < (x0.length : Int) then (if 0 ≤ x3 then ((impl_mayLie.f ((rd_T59 x0 (wrap64 (x3 - 1))).f0) ((rd_T59 x0 (wrap64 (x3 - 1))).f1) ((rd_T59 x0 (wrap64 (x3 - 1))).f2) ((rd_T59 x0 x3).f0) ((rd_T59 x0 x3).f1) ((rd_T59 x0 x3).f2)).bind fun t227 => (if t227 = true then (impl_wrong.l0 k x0 (wrap64 (x3 + 1))) else (some x3))) else (none)) else (none)) else (none)) else (some (-1))
def impl_wrong.f (k : Nat) (l0 : List (S59)) : Option (Int) := impl_wrong.l0 k l0 1
theorem impl_wrong.mono_l : ∀ k, (∀ y0 y1, LeO (impl_wrong.l0 k y0 y1) (impl_wrong.l0 (k + 1) y0 y1))
  | 0 => fun _ _ r h => by simp [impl_wrong.l0] at h
  | k + 1 => by
    have ih0 := impl_wrong.mono_l k
    · intro y0 y1
      unfold impl_wrong.l0
      repeat' first
      | (with_reducible exact ih0 _ _)
      | (with_reducible exact LeO.refl _)
      | (with_reducible exact LeO.none _)
      | (with_reducible refine LeO.ite ?_ ?_)
      | (with_reducible refine LeO.bind ?_ (fun _ => ?_))
      | exact ih0 _ _
      | exact LeO.none _
      | refine LeO.ite ?_ ?_
      | refine LeO.bind ?_ (fun _ => ?_)
theorem impl_wrong.mono : ∀ a0 k, LeO (impl_wrong.f k a0) (impl_wrong.f (k + 1) a0) := by
  intro a0 k
  have ih0 := impl_wrong.mono_l k
  unfold impl_wrong.f
  repeat' first
      | (with_reducible exact ih0 _ _)
      | (with_reducible exact LeO.refl _)
      | (with_reducible exact LeO.none _)
      | (with_reducible refine LeO.ite ?_ ?_)
      | (with_reducible refine LeO.bind ?_ (fun _ => ?_))
      | exact ih0 _ _
      | exact LeO.none _
      | refine LeO.ite ?_ ?_
      | refine LeO.bind ?_ (fun _ => ?_)
def impl_wrong.T4 : Bool × List (List Nat × List Nat) := (true, [([], []), ([], []), ([1], [1]), ([0, 2], [0, 2]), ([3], [3]), ([], []), ([], []), ([5, 6], [5, 6]), ([7], [7]), ([4, 8], [4, 8]), ([9], [9])])
def impl_wrong.B4 : List Nat := [0, 0, 2, 7, 15, 0, 0, 96, 224, 511, 1023]
theorem impl_wrong.tab4 : rtab .any (opsOf Try.f52 4) = impl_wrong.T4 := by kernel_rfl
theorem impl_wrong.bits4 : waitsOk impl_wrong.T4.2 impl_wrong.B4 = true := by kernel_rfl
set_option maxHeartbeats 8000000 in
set_option maxRecDepth 100000 in
theorem impl_wrong.calls (k : Nat) (A0 : Option Addr) (c0 : Nat) (l0 : List (S59)) (r : Int) (w : World) (hr0 : Kd.C k59 w A0 l0.length l0) (hc0 : l0.length ≤ c0) (h : impl_wrong.f k l0 = some r) :
    Calls Try.prog 52 #[.slice A0 l0.length c0] w fun e w' => e = .returned (.int .i64 r) ∧ Below w.heap.size w w' := by
  have hu59 := Try.underlying59
  have HR0 := Aside0.mk hr0
  have HC0 := Aside0.mk hc0
  clear hr0 hc0
  have HB := Aside0.mk (Below.refl w.heap.size w)
  have H : (impl_wrong.l0 k l0 1) = some r := h
  clear h
  have H' := Aside0.mk H
  clear H
  go_enter Try.func52, Try.ntmps52
  go_wp2
  go_loopg [3] k (fun kq v3 w' => ∃ (x3_1 : Int), v3 = .int .i64 x3_1 ∧ Aside0 (impl_wrong.l0 kq l0 x3_1 = some r) ∧ Aside0 (kq ≤ k) ∧ Aside0 (Below w.heap.size w w'))
  case atStart => exact ⟨(1), (by first | rfl | (simp; done) | (simp [*]; done)), H', ⟨Nat.le_refl _⟩, ⟨by repeat (first | (with_reducible first | exact HB.out | apply below_alloc | apply pw_below_drewN | apply below_drew1) | exact HB.out)⟩⟩
  case round =>
    clear H'
    obtain ⟨x3_1, rfl, HA, HK1, HB⟩ := hrel
    cases gk with
    | zero => exact absurd HA.out (by simp [impl_wrong.l0])
    | succ k1 =>
      have H := HA.out
      clear HA
      simp only [impl_wrong.l0] at H
      by_cases c2 : x3_1 < (l0.length : Int)
      · rw [if_pos c2] at H
        have c2b0 : decide (x3_1 < (l0.length : Int)) = true := decide_eq_true c2
        clear c2
        obtain ⟨ji3, hji3⟩ : ∃ j_ : Int, (wrap64 (x3_1 - 1)) = j_ := ⟨_, rfl⟩
        replace H : (if 0 ≤ (ji3) then (if (ji3) < (l0.length : Int) then (if 0 ≤ x3_1 then ((impl_mayLie.f ((rd_T59 l0 (ji3)).f0) ((rd_T59 l0 (ji3)).f1) ((rd_T59 l0 (ji3)).f2) ((rd_T59 l0 x3_1).f0) ((rd_T59 l0 x3_1).f1) ((rd_T59 l0 x3_1).f2)).bind fun t227 => (if t227 = true then (impl_wrong.l0 k1 l0 (wrap64 (x3_1 + 1))) else (some x3_1))) else (none)) else (none)) else (none)) = some r := by first | (rw [hji3] at H; exact H) | (simp only [hji3] at H ⊢; exact H)
        have hji3w : (IntKind.i64.wrap (x3_1 - 1)) = ji3 := (i64_w _).trans hji3
        by_cases c4 : 0 ≤ (ji3)
        · rw [if_pos c4] at H
          have c4b0 : decide (0 ≤ (ji3)) = true := decide_eq_true c4
          clear c4
          by_cases c5 : (ji3) < (l0.length : Int)
          · rw [if_pos c5] at H
            have c5b0 : decide ((ji3) < (l0.length : Int)) = true := decide_eq_true c5
            clear c5
            by_cases c6 : 0 ≤ x3_1
            · rw [if_pos c6] at H
              have c6b0 : decide (0 ≤ x3_1) = true := decide_eq_true c6
              clear c6
              replace H := Option.bind_eq_some_iff.mp H
              obtain ⟨t227, A70, H⟩ := H
              replace H : (if t227 = true then (impl_wrong.l0 k1 l0 (wrap64 (x3_1 + 1))) else (some x3_1)) = some r := H
              have A7 := Aside0.mk A70
              clear A70
              by_cases c8 : t227 = true
              · subst c8
                have H1 : (impl_wrong.l0 k1 l0 (wrap64 (x3_1 + 1))) = some r := by rw [if_pos rfl] at H; exact H
                clear H
                have H := H1
                clear H1
                have H' := Aside0.mk H
                clear H
                try go_wp2
                have n0_ := Aside0.mk (below_drew1 HB.out)
                clear HB
                have HB := n0_
                clear n0_
                have p225 : 0 ≤ ((ji3) : Int) := of_decide_eq_true (by first | (with_reducible assumption) | assumption)
                have q225 : (ji3) < (l0.length : Int) := of_decide_eq_true (by first | (with_reducible assumption) | assumption)
                obtain ⟨ad225, e225, hx225_0, hx225_1, hx225_2⟩ := at_T59 HR0.out (ji3) p225 q225
                have hw225_2 := hx225_2
                have hw225_1 := hx225_1
                have hw225_0 := hx225_0
                cases e225
                replace hx225_0 := (HB.out.cell (World.block_lt_of_cell? w _ hx225_0)).trans hx225_0
                replace hx225_1 := (HB.out.cell (World.block_lt_of_cell? w _ hx225_1)).trans hx225_1
                replace hx225_2 := (HB.out.cell (World.block_lt_of_cell? w _ hx225_2)).trans hx225_2
                replace p225 := eq_true p225
                replace q225 := eq_true q225
                have p226 : 0 ≤ (x3_1 : Int) := of_decide_eq_true (by first | (with_reducible assumption) | assumption)
                have q226 : x3_1 < (l0.length : Int) := of_decide_eq_true (by first | (with_reducible assumption) | assumption)
                obtain ⟨ad226, e226, hx226_0, hx226_1, hx226_2⟩ := at_T59 HR0.out x3_1 p226 q226
                have hw226_2 := hx226_2
                have hw226_1 := hx226_1
                have hw226_0 := hx226_0
                obtain rfl : ad225 = ad226 := (by injection e226)
                replace hx226_0 := (HB.out.cell (World.block_lt_of_cell? w _ hx226_0)).trans hx226_0
                replace hx226_1 := (HB.out.cell (World.block_lt_of_cell? w _ hx226_1)).trans hx226_1
                replace hx226_2 := (HB.out.cell (World.block_lt_of_cell? w _ hx226_2)).trans hx226_2
                replace p226 := eq_true p226
                replace q226 := eq_true q226
                refine start_ (n := 11) (S := fun w' => w'.cell? (ad225.add (((ji3)).toNat * 3)) = some (.int .i8 ((rd_T59 l0 (ji3)).f0)) ∧ w'.cell? ⟨(ad225.add (((ji3)).toNat * 3)).block, (ad225.add (((ji3)).toNat * 3)).off + 1, none⟩ = some (.int .i8 ((rd_T59 l0 (ji3)).f1)) ∧ w'.cell? ⟨(ad225.add (((ji3)).toNat * 3)).block, (ad225.add (((ji3)).toNat * 3)).off + 2, none⟩ = some (.int .i8 ((rd_T59 l0 (ji3)).f2)) ∧ w'.cell? (ad225.add ((x3_1).toNat * 3)) = some (.int .i8 ((rd_T59 l0 x3_1).f0)) ∧ w'.cell? ⟨(ad225.add ((x3_1).toNat * 3)).block, (ad225.add ((x3_1).toNat * 3)).off + 1, none⟩ = some (.int .i8 ((rd_T59 l0 x3_1).f1)) ∧ w'.cell? ⟨(ad225.add ((x3_1).toNat * 3)).block, (ad225.add ((x3_1).toNat * 3)).off + 2, none⟩ = some (.int .i8 ((rd_T59 l0 x3_1).f2))) (ds := []) #[false, false, false, false, false, false, false, false, false, false, false] (by kernel_rfl) rfl rfl ⟨((HB.out.cell (World.block_lt_of_cell? w _ hw225_0)).trans hw225_0), ((HB.out.cell (World.block_lt_of_cell? w _ hw225_1)).trans hw225_1), ((HB.out.cell (World.block_lt_of_cell? w _ hw225_2)).trans hw225_2), ((HB.out.cell (World.block_lt_of_cell? w _ hw226_0)).trans hw226_0), ((HB.out.cell (World.block_lt_of_cell? w _ hw226_1)).trans hw226_1), ((HB.out.cell (World.block_lt_of_cell? w _ hw226_2)).trans hw226_2)⟩ (fun hHeld => ?_); refine with_tabW impl_wrong.tab4 impl_wrong.bits4 (fun HT_ HW_ => ?_)
                generalize wr.drew = w9 at HB hx225_0 hx225_1 hx225_2 hx226_0 hx226_1 hx226_2 hHeld ⊢
                refine pure_ (i := 0) (N := some 10) (v := ?_) (a' := ?_) #[true, false, false, false, false, false, false, false, false, false, false] rfl rfl (any_of HT_.out (by kernel_rfl)) (fun _ _ _ h => h) (Or.inl ⟨by rfl, ?_⟩) ?_ ?_
                rotate_left
                · intro w'
                  go_simp
                  with_reducible rfl
                rotate_left
                · simp only [Act.put, List.setIfInBounds_toArray, List.set_cons_zero, List.set_cons_succ, i64_w, i32_w]
                  rfl
                refine pure_ (i := 1) (N := some 11) (v := ?_) (a' := ?_) #[true, true, false, false, false, false, false, false, false, false, false] rfl rfl (any_of HT_.out (by kernel_rfl)) (fun _ _ _ h => h) (Or.inl ⟨by rfl, ?_⟩) ?_ ?_
                rotate_left
                · intro w'
                  go_simp
                  with_reducible rfl
                rotate_left
                · simp only [Act.put, List.setIfInBounds_toArray, List.set_cons_zero, List.set_cons_succ, i64_w, i32_w]
                  rfl
                refine pure_ (i := 2) (N := some 12) (v := ?_) (a' := ?_) #[true, true, true, false, false, false, false, false, false, false, false] rfl rfl (any_of HT_.out (by kernel_rfl)) (fun _ _ _ h => h) (Or.inl ⟨by rfl, ?_⟩) ?_ ?_
                rotate_left
                · intro w'
                  go_simp
                  with_reducible rfl
                rotate_left
                · simp only [Act.put, List.setIfInBounds_toArray, List.set_cons_zero, List.set_cons_succ, i64_w, i32_w]
                  rfl
                refine pure_ (i := 3) (N := some 13) (v := ?_) (a' := ?_) #[true, true, true, true, false, false, false, false, false, false, false] rfl rfl (any_of HT_.out (by kernel_rfl)) (fun _ _ _ h => h) (Or.inl ⟨by rfl, ?_⟩) ?_ ?_
                rotate_left
                · intro w'
                  go_simp
                  with_reducible rfl
                rotate_left
                · simp only [Act.put, List.setIfInBounds_toArray, List.set_cons_zero, List.set_cons_succ, i64_w, i32_w]
                  rfl
                refine pure_ (i := 5) (N := some 15) (v := ?_) (a' := ?_) #[true, true, true, true, false, true, false, false, false, false, false] rfl rfl (any_of HT_.out (by kernel_rfl)) (fun _ _ _ h => h) (Or.inl ⟨by rfl, ?_⟩) ?_ ?_
                rotate_left
                · intro w'
                  go_simp
                  with_reducible rfl
                rotate_left
                · simp only [Act.put, List.setIfInBounds_toArray, List.set_cons_zero, List.set_cons_succ, i64_w, i32_w]
                  rfl
                refine pure_ (i := 6) (N := some 16) (v := ?_) (a' := ?_) #[true, true, true, true, false, true, true, false, false, false, false] rfl rfl (any_of HT_.out (by kernel_rfl)) (fun _ _ _ h => h) (Or.inl ⟨by rfl, ?_⟩) ?_ ?_
                rotate_left
                · intro w'
                  go_simp
                  with_reducible rfl
                rotate_left
                · simp only [Act.put, List.setIfInBounds_toArray, List.set_cons_zero, List.set_cons_succ, i64_w, i32_w]
                  rfl
                refine pure_ (i := 7) (N := some 17) (v := ?_) (a' := ?_) #[true, true, true, true, false, true, true, true, false, false, false] rfl rfl (any_of HT_.out (by kernel_rfl)) (fun _ _ _ h => h) (Or.inl ⟨by rfl, ?_⟩) ?_ ?_
                rotate_left
                · intro w'
                  go_simp
                  with_reducible rfl
                rotate_left
                · simp only [Act.put, List.setIfInBounds_toArray, List.set_cons_zero, List.set_cons_succ, i64_w, i32_w]
                  rfl
                refine take_ (i := 4) (N := some 14) (v := ?_) (a' := ?_) #[true, true, true, true, true, true, true, true, false, false, false] rfl rfl (take_ofW HT_.out HW_.out (by kernel_rfl)) (fun _ _ _ h => h) (Or.inl ⟨by rfl, ?_⟩) hHeld ?_ ?_
                rotate_left
                · rintro w' ⟨s0, s1, s2, s3, s4, s5⟩
                  go_simp
                  with_reducible rfl
                rotate_left
                · simp only [Act.put, List.setIfInBounds_toArray, List.set_cons_zero, List.set_cons_succ, i64_w, i32_w]
                  rfl
                refine take_ (i := 8) (N := some 18) (v := ?_) (a' := ?_) #[true, true, true, true, true, true, true, true, true, false, false] rfl rfl (take_ofW HT_.out HW_.out (by kernel_rfl)) (fun _ _ _ h => h) (Or.inl ⟨by rfl, ?_⟩) hHeld ?_ ?_
                rotate_left
                · rintro w' ⟨s0, s1, s2, s3, s4, s5⟩
                  go_simp
                  with_reducible rfl
                rotate_left
                · simp only [Act.put, List.setIfInBounds_toArray, List.set_cons_zero, List.set_cons_succ, i64_w, i32_w]
                  rfl
                refine one_ (i := 9) (N := some 19) #[true, true, true, true, true, true, true, true, true, true, false] rfl rfl (one_of HT_.out (by kernel_rfl)) (by decide) (fun K hK => ?_)
                refine goes_ Try.func92 (by kernel_rfl) rfl #[.agg #[.int .i8 ((rd_T59 l0 (ji3)).f0), .int .i8 ((rd_T59 l0 (ji3)).f1), .int .i8 ((rd_T59 l0 (ji3)).f2)], .agg #[.int .i8 ((rd_T59 l0 x3_1).f0), .int .i8 ((rd_T59 l0 x3_1).f1), .int .i8 ((rd_T59 l0 x3_1).f2)]] (by rfl) rfl rfl (by (try simp only [List.map_toArray, List.map_cons, List.map_nil]); first | done | (simp only [hji3]; rfl) | rfl | (simp only [List.length_drop, List.length_take]; rfl)) ?_
                with_reducible refine (impl_mayLie.calls ((rd_T59 l0 (ji3)).f0) ((rd_T59 l0 (ji3)).f1) ((rd_T59 l0 (ji3)).f2) ((rd_T59 l0 x3_1).f0) ((rd_T59 l0 x3_1).f1) ((rd_T59 l0 x3_1).f2) true _ A7.out).mono ?_
                rintro e w10 ⟨rfl, hb⟩
                refine ⟨_, rfl, ?_⟩
                have n0_ := Aside0.mk (below_step (by repeat (first | (with_reducible first | exact HB.out | apply below_alloc | apply pw_below_drewN | apply below_drew1) | exact HB.out)) hb)
                clear HB
                have HB := n0_
                clear n0_
                (try clear hb)
                (try clear hb2)
                (try clear hk)
                (try clear hi)
                refine hK.out _ _ ⟨((HB.out.cell (World.block_lt_of_cell? w _ hw225_0)).trans hw225_0), ((HB.out.cell (World.block_lt_of_cell? w _ hw225_1)).trans hw225_1), ((HB.out.cell (World.block_lt_of_cell? w _ hw225_2)).trans hw225_2), ((HB.out.cell (World.block_lt_of_cell? w _ hw226_0)).trans hw226_0), ((HB.out.cell (World.block_lt_of_cell? w _ hw226_1)).trans hw226_1), ((HB.out.cell (World.block_lt_of_cell? w _ hw226_2)).trans hw226_2)⟩ (fun hHeld => ?_)
                clear hK K
                refine norm_ (a' := ?_) ?_ ?_
                rotate_left
                · show Act.put _ (some 19) _ = _
                  simp only [Act.put, List.setIfInBounds_toArray, List.set_cons_zero, List.set_cons_succ, i64_w, i32_w]
                  rfl
                refine pure_ (i := 10) (N := some 20) (v := ?_) (a' := ?_) #[true, true, true, true, true, true, true, true, true, true, true] rfl rfl (any_of HT_.out (by kernel_rfl)) (fun _ _ _ h => h) (Or.inl ⟨by rfl, ?_⟩) ?_ ?_
                rotate_left
                · intro w'
                  go_simp
                  with_reducible rfl
                rotate_left
                · simp only [Act.put, List.setIfInBounds_toArray, List.set_cons_zero, List.set_cons_succ, i64_w, i32_w]
                  rfl
                refine done_ (done_of HT_.out (by kernel_rfl)) ?_
                try go_wp2
                go_roundg k1
                case measure => have := HK1.out; omega
                case rel => exact ⟨(wrap64 (x3_1 + 1)), (by first | rfl | (simp; done) | (simp [*]; done)), H', ⟨by have := HK1.out; omega⟩, ⟨by repeat (first | (with_reducible first | exact HB.out | apply below_alloc | apply pw_below_drewN | apply below_drew1) | exact HB.out)⟩⟩
              · replace c8 := Bool.eq_false_iff.mpr c8
                subst c8
                have H1 : (some x3_1) = some r := by rw [if_neg (show ¬ (false = true) by decide)] at H; exact H
                clear H
                have H := H1
                clear H1
                obtain rfl := Option.some.inj H
                try go_wp2
                have n0_ := Aside0.mk (below_drew1 HB.out)
                clear HB
                have HB := n0_
                clear n0_
                have p225 : 0 ≤ ((ji3) : Int) := of_decide_eq_true (by first | (with_reducible assumption) | assumption)
                have q225 : (ji3) < (l0.length : Int) := of_decide_eq_true (by first | (with_reducible assumption) | assumption)
                obtain ⟨ad225, e225, hx225_0, hx225_1, hx225_2⟩ := at_T59 HR0.out (ji3) p225 q225
                have hw225_2 := hx225_2
                have hw225_1 := hx225_1
                have hw225_0 := hx225_0
                cases e225
                replace hx225_0 := (HB.out.cell (World.block_lt_of_cell? w _ hx225_0)).trans hx225_0
                replace hx225_1 := (HB.out.cell (World.block_lt_of_cell? w _ hx225_1)).trans hx225_1
                replace hx225_2 := (HB.out.cell (World.block_lt_of_cell? w _ hx225_2)).trans hx225_2
                replace p225 := eq_true p225
                replace q225 := eq_true q225
                have p226 : 0 ≤ (x3_1 : Int) := of_decide_eq_true (by first | (with_reducible assumption) | assumption)
                have q226 : x3_1 < (l0.length : Int) := of_decide_eq_true (by first | (with_reducible assumption) | assumption)
                obtain ⟨ad226, e226, hx226_0, hx226_1, hx226_2⟩ := at_T59 HR0.out x3_1 p226 q226
                have hw226_2 := hx226_2
                have hw226_1 := hx226_1
                have hw226_0 := hx226_0
                obtain rfl : ad225 = ad226 := (by injection e226)
                replace hx226_0 := (HB.out.cell (World.block_lt_of_cell? w _ hx226_0)).trans hx226_0
                replace hx226_1 := (HB.out.cell (World.block_lt_of_cell? w _ hx226_1)).trans hx226_1
                replace hx226_2 := (HB.out.cell (World.block_lt_of_cell? w _ hx226_2)).trans hx226_2
                replace p226 := eq_true p226
                replace q226 := eq_true q226
                refine start_ (n := 11) (S := fun w' => w'.cell? (ad225.add (((ji3)).toNat * 3)) = some (.int .i8 ((rd_T59 l0 (ji3)).f0)) ∧ w'.cell? ⟨(ad225.add (((ji3)).toNat * 3)).block, (ad225.add (((ji3)).toNat * 3)).off + 1, none⟩ = some (.int .i8 ((rd_T59 l0 (ji3)).f1)) ∧ w'.cell? ⟨(ad225.add (((ji3)).toNat * 3)).block, (ad225.add (((ji3)).toNat * 3)).off + 2, none⟩ = some (.int .i8 ((rd_T59 l0 (ji3)).f2)) ∧ w'.cell? (ad225.add ((x3_1).toNat * 3)) = some (.int .i8 ((rd_T59 l0 x3_1).f0)) ∧ w'.cell? ⟨(ad225.add ((x3_1).toNat * 3)).block, (ad225.add ((x3_1).toNat * 3)).off + 1, none⟩ = some (.int .i8 ((rd_T59 l0 x3_1).f1)) ∧ w'.cell? ⟨(ad225.add ((x3_1).toNat * 3)).block, (ad225.add ((x3_1).toNat * 3)).off + 2, none⟩ = some (.int .i8 ((rd_T59 l0 x3_1).f2))) (ds := []) #[false, false, false, false, false, false, false, false, false, false, false] (by kernel_rfl) rfl rfl ⟨((HB.out.cell (World.block_lt_of_cell? w _ hw225_0)).trans hw225_0), ((HB.out.cell (World.block_lt_of_cell? w _ hw225_1)).trans hw225_1), ((HB.out.cell (World.block_lt_of_cell? w _ hw225_2)).trans hw225_2), ((HB.out.cell (World.block_lt_of_cell? w _ hw226_0)).trans hw226_0), ((HB.out.cell (World.block_lt_of_cell? w _ hw226_1)).trans hw226_1), ((HB.out.cell (World.block_lt_of_cell? w _ hw226_2)).trans hw226_2)⟩ (fun hHeld => ?_); refine with_tabW impl_wrong.tab4 impl_wrong.bits4 (fun HT_ HW_ => ?_)
                generalize wr.drew = w11 at HB hx225_0 hx225_1 hx225_2 hx226_0 hx226_1 hx226_2 hHeld ⊢
                refine pure_ (i := 0) (N := some 10) (v := ?_) (a' := ?_) #[true, false, false, false, false, false, false, false, false, false, false] rfl rfl (any_of HT_.out (by kernel_rfl)) (fun _ _ _ h => h) (Or.inl ⟨by rfl, ?_⟩) ?_ ?_
                rotate_left
                · intro w'
                  go_simp
                  with_reducible rfl
                rotate_left
                · simp only [Act.put, List.setIfInBounds_toArray, List.set_cons_zero, List.set_cons_succ, i64_w, i32_w]
                  rfl
                refine pure_ (i := 1) (N := some 11) (v := ?_) (a' := ?_) #[true, true, false, false, false, false, false, false, false, false, false] rfl rfl (any_of HT_.out (by kernel_rfl)) (fun _ _ _ h => h) (Or.inl ⟨by rfl, ?_⟩) ?_ ?_
                rotate_left
                · intro w'
                  go_simp
                  with_reducible rfl
                rotate_left
                · simp only [Act.put, List.setIfInBounds_toArray, List.set_cons_zero, List.set_cons_succ, i64_w, i32_w]
                  rfl
                refine pure_ (i := 2) (N := some 12) (v := ?_) (a' := ?_) #[true, true, true, false, false, false, false, false, false, false, false] rfl rfl (any_of HT_.out (by kernel_rfl)) (fun _ _ _ h => h) (Or.inl ⟨by rfl, ?_⟩) ?_ ?_
                rotate_left
                · intro w'
                  go_simp
                  with_reducible rfl
                rotate_left
                · simp only [Act.put, List.setIfInBounds_toArray, List.set_cons_zero, List.set_cons_succ, i64_w, i32_w]
                  rfl
                refine pure_ (i := 3) (N := some 13) (v := ?_) (a' := ?_) #[true, true, true, true, false, false, false, false, false, false, false] rfl rfl (any_of HT_.out (by kernel_rfl)) (fun _ _ _ h => h) (Or.inl ⟨by rfl, ?_⟩) ?_ ?_
                rotate_left
                · intro w'
                  go_simp
                  with_reducible rfl
                rotate_left
                · simp only [Act.put, List.setIfInBounds_toArray, List.set_cons_zero, List.set_cons_succ, i64_w, i32_w]
                  rfl
                refine pure_ (i := 5) (N := some 15) (v := ?_) (a' := ?_) #[true, true, true, true, false, true, false, false, false, false, false] rfl rfl (any_of HT_.out (by kernel_rfl)) (fun _ _ _ h => h) (Or.inl ⟨by rfl, ?_⟩) ?_ ?_
                rotate_left
                · intro w'
                  go_simp
                  with_reducible rfl
                rotate_left
                · simp only [Act.put, List.setIfInBounds_toArray, List.set_cons_zero, List.set_cons_succ, i64_w, i32_w]
                  rfl
                refine pure_ (i := 6) (N := some 16) (v := ?_) (a' := ?_) #[true, true, true, true, false, true, true, false, false, false, false] rfl rfl (any_of HT_.out (by kernel_rfl)) (fun _ _ _ h => h) (Or.inl ⟨by rfl, ?_⟩) ?_ ?_
                rotate_left
                · intro w'
                  go_simp
                  with_reducible rfl
                rotate_left
                · simp only [Act.put, List.setIfInBounds_toArray, List.set_cons_zero, List.set_cons_succ, i64_w, i32_w]
                  rfl
                refine pure_ (i := 7) (N := some 17) (v := ?_) (a' := ?_) #[true, true, true, true, false, true, true, true, false, false, false] rfl rfl (any_of HT_.out (by kernel_rfl)) (fun _ _ _ h => h) (Or.inl ⟨by rfl, ?_⟩) ?_ ?_
                rotate_left
                · intro w'
                  go_simp
                  with_reducible rfl
                rotate_left
                · simp only [Act.put, List.setIfInBounds_toArray, List.set_cons_zero, List.set_cons_succ, i64_w, i32_w]
                  rfl
                refine take_ (i := 4) (N := some 14) (v := ?_) (a' := ?_) #[true, true, true, true, true, true, true, true, false, false, false] rfl rfl (take_ofW HT_.out HW_.out (by kernel_rfl)) (fun _ _ _ h => h) (Or.inl ⟨by rfl, ?_⟩) hHeld ?_ ?_
                rotate_left
                · rintro w' ⟨s0, s1, s2, s3, s4, s5⟩
                  go_simp
                  with_reducible rfl
                rotate_left
                · simp only [Act.put, List.setIfInBounds_toArray, List.set_cons_zero, List.set_cons_succ, i64_w, i32_w]
                  rfl
                refine take_ (i := 8) (N := some 18) (v := ?_) (a' := ?_) #[true, true, true, true, true, true, true, true, true, false, false] rfl rfl (take_ofW HT_.out HW_.out (by kernel_rfl)) (fun _ _ _ h => h) (Or.inl ⟨by rfl, ?_⟩) hHeld ?_ ?_
                rotate_left
                · rintro w' ⟨s0, s1, s2, s3, s4, s5⟩
                  go_simp
                  with_reducible rfl
                rotate_left
                · simp only [Act.put, List.setIfInBounds_toArray, List.set_cons_zero, List.set_cons_succ, i64_w, i32_w]
                  rfl
                refine one_ (i := 9) (N := some 19) #[true, true, true, true, true, true, true, true, true, true, false] rfl rfl (one_of HT_.out (by kernel_rfl)) (by decide) (fun K hK => ?_)
                refine goes_ Try.func92 (by kernel_rfl) rfl #[.agg #[.int .i8 ((rd_T59 l0 (ji3)).f0), .int .i8 ((rd_T59 l0 (ji3)).f1), .int .i8 ((rd_T59 l0 (ji3)).f2)], .agg #[.int .i8 ((rd_T59 l0 x3_1).f0), .int .i8 ((rd_T59 l0 x3_1).f1), .int .i8 ((rd_T59 l0 x3_1).f2)]] (by rfl) rfl rfl (by (try simp only [List.map_toArray, List.map_cons, List.map_nil]); first | done | (simp only [hji3]; rfl) | rfl | (simp only [List.length_drop, List.length_take]; rfl)) ?_
                with_reducible refine (impl_mayLie.calls ((rd_T59 l0 (ji3)).f0) ((rd_T59 l0 (ji3)).f1) ((rd_T59 l0 (ji3)).f2) ((rd_T59 l0 x3_1).f0) ((rd_T59 l0 x3_1).f1) ((rd_T59 l0 x3_1).f2) false _ A7.out).mono ?_
                rintro e w12 ⟨rfl, hb⟩
                refine ⟨_, rfl, ?_⟩
                have n0_ := Aside0.mk (below_step (by repeat (first | (with_reducible first | exact HB.out | apply below_alloc | apply pw_below_drewN | apply below_drew1) | exact HB.out)) hb)
                clear HB
                have HB := n0_
                clear n0_
                (try clear hb)
                (try clear hb2)
                (try clear hk)
                (try clear hi)
                refine hK.out _ _ ⟨((HB.out.cell (World.block_lt_of_cell? w _ hw225_0)).trans hw225_0), ((HB.out.cell (World.block_lt_of_cell? w _ hw225_1)).trans hw225_1), ((HB.out.cell (World.block_lt_of_cell? w _ hw225_2)).trans hw225_2), ((HB.out.cell (World.block_lt_of_cell? w _ hw226_0)).trans hw226_0), ((HB.out.cell (World.block_lt_of_cell? w _ hw226_1)).trans hw226_1), ((HB.out.cell (World.block_lt_of_cell? w _ hw226_2)).trans hw226_2)⟩ (fun hHeld => ?_)
                clear hK K
                refine norm_ (a' := ?_) ?_ ?_
                rotate_left
                · show Act.put _ (some 19) _ = _
                  simp only [Act.put, List.setIfInBounds_toArray, List.set_cons_zero, List.set_cons_succ, i64_w, i32_w]
                  rfl
                refine pure_ (i := 10) (N := some 20) (v := ?_) (a' := ?_) #[true, true, true, true, true, true, true, true, true, true, true] rfl rfl (any_of HT_.out (by kernel_rfl)) (fun _ _ _ h => h) (Or.inl ⟨by rfl, ?_⟩) ?_ ?_
                rotate_left
                · intro w'
                  go_simp
                  with_reducible rfl
                rotate_left
                · simp only [Act.put, List.setIfInBounds_toArray, List.set_cons_zero, List.set_cons_succ, i64_w, i32_w]
                  rfl
                refine done_ (done_of HT_.out (by kernel_rfl)) ?_
                try go_wp2
                go_ret
                exact ⟨by first | rfl | (simp [errW_none, errW_some] <;> rfl) | (simp only [← hji3]; first | rfl | (simp [errW_none, errW_some] <;> rfl)) | (simp [*, errW_none, errW_some] <;> rfl), by repeat (first | (with_reducible first | exact HB.out | apply below_alloc | apply pw_below_drewN | apply below_drew1) | exact HB.out)⟩
            · rw [if_neg c6] at H
              exact absurd H (by simp)
          · rw [if_neg c5] at H
            exact absurd H (by simp)
        · rw [if_neg c4] at H
          exact absurd H (by simp)
      · rw [if_neg c2] at H
        have c2b0 : decide (x3_1 < (l0.length : Int)) = false := decide_eq_false c2
        clear c2
        obtain rfl := Option.some.inj H
        go_wp2
        go_ret
        exact ⟨by first | rfl | (simp [errW_none, errW_some] <;> rfl) | (simp [*, errW_none, errW_some] <;> rfl), by repeat (first | (with_reducible first | exact HB.out | apply below_alloc | apply pw_below_drewN | apply below_drew1) | exact HB.out)⟩

/-! ### impl_deepOf: function 83 -/
def impl_deepOf.l0 : Nat → Int → List (S59) → Int → Int → Option (Int)
  | 0, _, _, _, _ => none
  | k + 1, x3, x6, x7, x8 => if x8 < x7 then (if 0 ≤ x8 then (if x8 < (x6.length : Int) then (impl_deepOf.l0 k (wrap64 (x3 + (wrap64 ((wrap64 ((rd_T59 x6 x8).f0)) + 1)))) x6 x7 (wrap64 (x8 + 1))) else (none)) else (none)) else (some x3)
def impl_deepOf.f (k : Nat) (l0 : List (S59)) : Option (Int) := impl_deepOf.l0 k 0 l0 (l0.length : Int) 0
theorem impl_deepOf.mono_l : ∀ k, (∀ y0 y1 y2 y3, LeO (impl_deepOf.l0 k y0 y1 y2 y3) (impl_deepOf.l0 (k + 1) y0 y1 y2 y3))
  | 0 => fun _ _ _ _ r h => by simp [impl_deepOf.l0] at h
  | k + 1 => by
    have ih0 := impl_deepOf.mono_l k
    · intro y0 y1 y2 y3
      unfold impl_deepOf.l0
      repeat' first
      | (with_reducible exact ih0 _ _ _ _)
      | (with_reducible exact LeO.refl _)
      | (with_reducible exact LeO.none _)
      | (with_reducible refine LeO.ite ?_ ?_)
      | (with_reducible refine LeO.bind ?_ (fun _ => ?_))
      | exact ih0 _ _ _ _
      | exact LeO.none _
      | refine LeO.ite ?_ ?_
      | refine LeO.bind ?_ (fun _ => ?_)
theorem impl_deepOf.mono : ∀ a0 k, LeO (impl_deepOf.f k a0) (impl_deepOf.f (k + 1) a0) := by
  intro a0 k
  have ih0 := impl_deepOf.mono_l k
  unfold impl_deepOf.f
  repeat' first
      | (with_reducible exact ih0 _ _ _ _)
      | (with_reducible exact LeO.refl _)
      | (with_reducible exact LeO.none _)
      | (with_reducible refine LeO.ite ?_ ?_)
      | (with_reducible refine LeO.bind ?_ (fun _ => ?_))
      | exact ih0 _ _ _ _
      | exact LeO.none _
      | refine LeO.ite ?_ ?_
      | refine LeO.bind ?_ (fun _ => ?_)
set_option maxHeartbeats 8000000 in
set_option maxRecDepth 100000 in
theorem impl_deepOf.calls (k : Nat) (A0 : Option Addr) (c0 : Nat) (l0 : List (S59)) (r : Int) (w : World) (hr0 : Kd.C k59 w A0 l0.length l0) (hc0 : l0.length ≤ c0) (h : impl_deepOf.f k l0 = some r) :
    Calls Try.prog 83 #[.slice A0 l0.length c0] w fun e w' => e = .returned (.int .i64 r) ∧ Below w.heap.size w w' := by
  have hu59 := Try.underlying59
  have HR0 := Aside0.mk hr0
  have HC0 := Aside0.mk hc0
  clear hr0 hc0
  have HB := Aside0.mk (Below.refl w.heap.size w)
  have H : (impl_deepOf.l0 k 0 l0 (l0.length : Int) 0) = some r := h
  clear h
  have H' := Aside0.mk H
  clear H
  go_enter Try.func83, Try.ntmps83
  go_wp2
  go_loopg [3, 8] k (fun kq v3 v8 w' => ∃ (x3_1 : Int) (x8_1 : Int), v3 = .int .i64 x3_1 ∧ v8 = .int .i64 x8_1 ∧ Aside0 (impl_deepOf.l0 kq x3_1 l0 (l0.length : Int) x8_1 = some r) ∧ Aside0 (kq ≤ k) ∧ Aside0 (Below w.heap.size w w'))
  case atStart => exact ⟨(0), (0), (by first | rfl | (simp; done) | (simp [*]; done)), (by first | rfl | (simp; done) | (simp [*]; done)), H', ⟨Nat.le_refl _⟩, ⟨by repeat (first | (with_reducible first | exact HB.out | apply below_alloc | apply pw_below_drewN | apply below_drew1) | exact HB.out)⟩⟩
  case round =>
    clear H'
    obtain ⟨x3_1, x8_1, rfl, rfl, HA, HK1, HB⟩ := hrel
    cases gk with
    | zero => exact absurd HA.out (by simp [impl_deepOf.l0])
    | succ k1 =>
      have H := HA.out
      clear HA
      simp only [impl_deepOf.l0] at H
      by_cases c2 : x8_1 < (l0.length : Int)
      · rw [if_pos c2] at H
        have c2b0 : decide (x8_1 < (l0.length : Int)) = true := decide_eq_true c2
        clear c2
        by_cases c3 : 0 ≤ x8_1
        · rw [if_pos c3] at H
          have c3b0 : decide (0 ≤ x8_1) = true := decide_eq_true c3
          clear c3
          by_cases c4 : x8_1 < (l0.length : Int)
          · rw [if_pos c4] at H
            have c4b0 : decide (x8_1 < (l0.length : Int)) = true := decide_eq_true c4
            clear c4
            have H' := Aside0.mk H
            clear H
            have p228 : 0 ≤ (x8_1 : Int) := of_decide_eq_true (by first | (with_reducible assumption) | assumption)
            have q228 : x8_1 < (l0.length : Int) := of_decide_eq_true (by first | (with_reducible assumption) | assumption)
            obtain ⟨ad228, e228, hx228_0, hx228_1, hx228_2⟩ := at_T59 HR0.out x8_1 p228 q228
            cases e228
            replace hx228_0 := (HB.out.cell (World.block_lt_of_cell? w _ hx228_0)).trans hx228_0
            replace hx228_1 := (HB.out.cell (World.block_lt_of_cell? w _ hx228_1)).trans hx228_1
            replace hx228_2 := (HB.out.cell (World.block_lt_of_cell? w _ hx228_2)).trans hx228_2
            replace p228 := eq_true p228
            replace q228 := eq_true q228
            go_wp2_with (first | ((with_reducible refine gate_dst (N := 5) rfl ?_); refine box_event ?hg (N := 5) ?hd (cs := #[.int .i8 0, .int .i8 0, .int .i8 0]) (t := 59) ?hr ?_; (case hd => rfl); (case hg => rfl); (case hr => first | (go_simp; done) | (go_simp; rfl)); intro gb229 hg w5 hbox hb; have n0_ := Aside0.mk (below_step (by repeat (first | (with_reducible first | exact HB.out | apply below_alloc | apply pw_below_drewN | apply below_drew1) | exact HB.out)) hb); have n1_ := Aside0.mk (hbox); have n2_ := Aside0.mk ((by rw [hg]; exact (below_size (by repeat (first | (with_reducible first | exact HB.out | apply below_alloc | apply pw_below_drewN | apply below_drew1) | exact HB.out))) : w.heap.size ≤ gb229)); have n3_ := Aside0.mk ((by rw [hg]; exact (below_size (by repeat (first | (with_reducible first | exact HB.out | apply below_alloc | apply pw_below_drewN | apply below_drew1) | exact HB.out))) : w.heap.size ≤ gb229)); clear HB; have HB := n0_; have BK229 := n1_; have GW229 := n2_; have GE229 := n3_; clear n0_ n1_ n2_ n3_; clear hb hbox hg; have hcz6_0 : w5.cell? ⟨gb229, 0, none⟩ = some (.int .i8 0) := (blk_cell BK229.out 0).trans rfl; have hcz6_1 : w5.cell? ⟨gb229, 1, none⟩ = some (.int .i8 0) := (blk_cell BK229.out 1).trans rfl; have hcz6_2 : w5.cell? ⟨gb229, 2, none⟩ = some (.int .i8 0) := (blk_cell BK229.out 2).trans rfl; have hfz6_0 := blk_frozen BK229.out 0; have hfz6_1 := blk_frozen BK229.out 1; have hfz6_2 := blk_frozen BK229.out 2))
            go_roundg k1
            case measure => have := HK1.out; omega
            case rel => exact ⟨(wrap64 (x3_1 + (wrap64 ((wrap64 ((rd_T59 l0 x8_1).f0)) + 1)))), (wrap64 (x8_1 + 1)), (by first | rfl | (simp; done) | (simp [*]; done)), (by first | rfl | (simp; done) | (simp [*]; done)), H', ⟨by have := HK1.out; omega⟩, ⟨by repeat (first | (with_reducible first | exact HB.out | apply below_alloc | apply pw_below_drewN | apply below_drew1 | refine below_set ?_ GE229.out) | exact HB.out)⟩⟩
          · rw [if_neg c4] at H
            exact absurd H (by simp)
        · rw [if_neg c3] at H
          exact absurd H (by simp)
      · rw [if_neg c2] at H
        have c2b0 : decide (x8_1 < (l0.length : Int)) = false := decide_eq_false c2
        clear c2
        obtain rfl := Option.some.inj H
        go_wp2
        go_ret
        exact ⟨by first | rfl | (simp [errW_none, errW_some] <;> rfl) | (simp [*, errW_none, errW_some] <;> rfl), by repeat (first | (with_reducible first | exact HB.out | apply below_alloc | apply pw_below_drewN | apply below_drew1) | exact HB.out)⟩

/-! ### impl_areRafts: function 63: this session's own text -/
theorem implValid_is (a b c : Int) : impl_ValidHull.f a b c = some (vh ⟨a, b, c⟩) := by
  unfold impl_ValidHull.f
  show _ = some (decide (1 ≤ a ∧ a ≤ 40 ∧ 1 ≤ b ∧ b ≤ 100 ∧ 1 ≤ c ∧ c ≤ 20))
  repeat' split
  all_goals first | exact some_dec (by omega) | exact some_decF (by omega)

def codeH (l : List S59) : Int := if l.all vh then (if l.length > 7 then 3 else 0) else 1

theorem hullsCode_l0 (l : List S59) (hl : l.length ≤ 1152921504606846976) : ∀ (rest : List S59) (p k : Nat), l.drop p = rest → rest.length < k →
    impl_hullsCode.l0 k l l (l.length : Int) (p : Int) = some (if rest.all vh then (if l.length > 7 then 3 else 0) else 1) := by
  intro rest
  induction rest with
  | nil =>
    intro p k hd hk
    obtain ⟨k, rfl⟩ : ∃ m, k = m + 1 := ⟨k - 1, by simp at hk; omega⟩
    have := of_drop_nil hd
    simp only [impl_hullsCode.l0]
    rw [if_neg (by omega)]
    by_cases h : l.length > 7
    · rw [if_pos (by omega)]; simp [h]
    · rw [if_neg (by omega)]; simp [h]
  | cons x rest ih =>
    intro p k hd hk
    simp only [List.length_cons] at hk
    obtain ⟨k, rfl⟩ : ∃ m, k = m + 1 := ⟨k - 1, by omega⟩
    obtain ⟨hp, hd', hx⟩ := of_drop hd
    simp only [impl_hullsCode.l0, rd_T59, hx, implValid_is, Option.bind_some]
    rw [if_pos (by omega), if_pos (by omega), if_pos (by omega), step64 hp hl, ih (p + 1) k hd' (by omega)]
    cases hv : vh x <;> simp [hv]

theorem hullsCode_is (l : List S59) (hl : l.length ≤ 1152921504606846976) (k : Nat) (hk : l.length < k) : impl_hullsCode.f k l = some (codeH l) := by
  unfold impl_hullsCode.f codeH
  exact hullsCode_l0 l hl l 0 k rfl hk

theorem codeH_ok {l : List S59} (h : codeH l = 0) : l.length ≤ 7 ∧ ∀ x ∈ l, vh x = true := by
  unfold codeH at h
  split at h
  · rename_i ha
    split at h
    · cases h
    · exact ⟨by omega, by simpa using ha⟩
  · cases h

def deepH : List S59 → Int
  | [] => 0
  | x :: xs => x.f0 + 1 + deepH xs

theorem deepH_in : ∀ (l : List S59), (∀ x ∈ l, In8 x) → -128 * (l.length : Int) ≤ deepH l ∧ deepH l ≤ 128 * (l.length : Int)
  | [], _ => by simp [deepH]
  | x :: xs, h => by
    have h1 := deepH_in xs (fun y hy => h y (List.mem_cons_of_mem _ hy))
    have h2 := (h x List.mem_cons_self).1
    simp only [deepH, List.length_cons]
    omega

theorem deepOf_l0 (l : List S59) (hl : l.length ≤ 93824992236885) (h8 : ∀ x ∈ l, In8 x) : ∀ (rest : List S59) (p k : Nat) (a : Int), l.drop p = rest → rest.length < k → -128 * (p : Int) ≤ a → a ≤ 128 * (p : Int) →
    impl_deepOf.l0 k a l (l.length : Int) (p : Int) = some (a + deepH rest) := by
  intro rest
  induction rest with
  | nil =>
    intro p k a hd hk ha0 ha1
    obtain ⟨k, rfl⟩ : ∃ m, k = m + 1 := ⟨k - 1, by simp at hk; omega⟩
    have := of_drop_nil hd
    simp only [impl_deepOf.l0]
    rw [if_neg (by omega)]
    simp [deepH]
  | cons x rest ih =>
    intro p k a hd hk ha0 ha1
    simp only [List.length_cons] at hk
    obtain ⟨k, rfl⟩ : ∃ m, k = m + 1 := ⟨k - 1, by omega⟩
    obtain ⟨hp, hd', hx⟩ := of_drop hd
    have hx8 : In8 x := h8 x (List.mem_of_mem_drop (by rw [hd]; exact List.mem_cons_self))
    have h0 := hx8.1
    simp only [impl_deepOf.l0, rd_T59, hx]
    rw [if_pos (by omega), if_pos (by omega), if_pos (by omega), step64 hp (by omega), w64_id (a := x.f0) (by omega), w64_id (a := x.f0 + 1) (by omega), w64_id (by omega), ih (p + 1) k _ hd' (by omega) (by omega) (by omega)]
    simp only [deepH]
    congr 1
    omega

theorem deepOf_is (l : List S59) (hl : l.length ≤ 93824992236885) (h8 : ∀ x ∈ l, In8 x) (k : Nat) (hk : l.length < k) : impl_deepOf.f k l = some (deepH l) := by
  unfold impl_deepOf.f
  have := deepOf_l0 l hl h8 l 0 k 0 rfl hk (by simp) (by simp)
  simpa using this

def mayH (x y : S59) : Bool := decide (x.f2 - y.f2 ≤ 2 ∧ y.f2 - x.f2 ≤ 2 ∧ y.f1 ≤ x.f1 + 3)

/-- The program takes the difference of the heights as an int8: with valid hulls nothing wraps. -/
theorem implMay_is (x y : S59) (hx : vh x = true) (hy : vh y = true) : impl_mayLie.f x.f0 x.f1 x.f2 y.f0 y.f1 y.f2 = some (mayH x y) := by
  simp only [vh, decide_eq_true_eq] at hx hy
  unfold impl_mayLie.f mayH
  have e : IntKind.i8.wrap (x.f2 - y.f2) = x.f2 - y.f2 := by
    rw [w8_cases]
    split <;> omega
  rw [e, w64_id (a := x.f1) (by omega), w64_id (a := y.f1) (by omega), w64_id (by omega)]
  repeat' split
  all_goals first | exact some_dec (by omega) | exact some_decF (by omega)

/-- The first hull that may not lie where it lies, from place i on. -/
def wrongFrom : Int → S59 → List S59 → Int
  | _, _, [] => -1
  | i, x, y :: r => if mayH x y then wrongFrom (i + 1) y r else i
def wrongH : List S59 → Int
  | [] => -1
  | x :: r => wrongFrom 1 x r

theorem wrongFrom_ge (r : List S59) : ∀ (i : Int) (x : S59), 0 ≤ i → -1 ≤ wrongFrom i x r ∧ wrongFrom i x r < i + r.length ∨ wrongFrom i x r = -1 := by
  induction r with
  | nil => intro i x _; right; rfl
  | cons y r ih =>
    intro i x h0
    simp only [wrongFrom, List.length_cons]
    split
    · rcases ih (i + 1) y (by omega) with h | h
      · left; omega
      · right; exact h
    · left; omega

theorem wrong_l0 (l : List S59) (hl : l.length ≤ 1152921504606846976) (hv : ∀ x ∈ l, vh x = true) : ∀ (rest : List S59) (x : S59) (p k : Nat), l.drop p = x :: rest → rest.length < k →
    impl_wrong.l0 k l ((p + 1 : Nat) : Int) = some (wrongFrom ((p + 1 : Nat) : Int) x rest) := by
  intro rest
  induction rest with
  | nil =>
    intro x p k hd hk
    obtain ⟨k, rfl⟩ : ∃ m, k = m + 1 := ⟨k - 1, by simp at hk; omega⟩
    obtain ⟨hp, hd', hx⟩ := of_drop hd
    have := of_drop_nil hd'
    simp only [impl_wrong.l0, wrongFrom]
    rw [if_neg (by omega)]
  | cons y rest ih =>
    intro x p k hd hk
    simp only [List.length_cons] at hk
    obtain ⟨k, rfl⟩ : ∃ m, k = m + 1 := ⟨k - 1, by omega⟩
    obtain ⟨hp, hd', hx⟩ := of_drop hd
    obtain ⟨hp', hd'', hy⟩ := of_drop hd'
    have vx := hv x (List.mem_of_mem_drop (by rw [hd]; exact List.mem_cons_self))
    have vy := hv y (List.mem_of_mem_drop (by rw [hd']; exact List.mem_cons_self))
    have e1 : wrap64 (((p + 1 : Nat) : Int) - 1) = (p : Int) := by rw [w64_id (by omega)]; omega
    simp only [impl_wrong.l0, e1, rd_T59, hx, hy, implMay_is x y vx vy, Option.bind_some, wrongFrom]
    rw [if_pos (by omega), if_pos (by omega), if_pos (by omega), if_pos (by omega), step64 hp' hl]
    rw [ih y (p + 1) k hd' (by omega)]
    cases mayH x y <;> simp [w64_id] <;> rfl

theorem wrong_is (l : List S59) (hl : l.length ≤ 1152921504606846976) (hv : ∀ x ∈ l, vh x = true) (k : Nat) (hk : l.length < k) : impl_wrong.f k l = some (wrongH l) := by
  unfold impl_wrong.f
  cases l with
  | nil =>
    obtain ⟨k, rfl⟩ : ∃ m, k = m + 1 := ⟨k - 1, by simp at hk; omega⟩
    simp only [impl_wrong.l0]
    rw [if_neg (by simp)]
    rfl
  | cons x r =>
    have := wrong_l0 (x :: r) hl hv r x 0 k rfl (by simp at hk; omega)
    simpa [wrongH] using this

theorem vh_in8 {x : S59} (h : vh x = true) : In8 x := by
  simp only [vh, decide_eq_true_eq] at h
  exact ⟨by omega, by omega, by omega⟩

def fitsH (l : List S59) (deep : Int) (r : List Int) (k : Int) : Bool := decide (wrongH (withH l r k) < 0) && decide (deepH (withH l r k) ≤ deep)
def areH (l : List S59) (deep : Int) (r : List Int) : Bool := (List.range 7).all fun k => fitsH l deep r (k : Int)

def impl_areRafts.f (l0 : List S59) (l1 : List Int) (a2 : Int) : Option Bool := if l1.length ≤ l0.length ∧ l0.length ≤ 1048576 ∧ (∀ x ∈ l1, 0 ≤ x ∧ x < 7) ∧ (∀ x ∈ l0, vh x = true) then some (areH l0 a2 l1) else none
set_option maxHeartbeats 4000000 in
set_option maxRecDepth 100000 in
theorem impl_areRafts.calls (A0 : Option Addr) (c0 : Nat) (l0 : List (S59)) (A1 : Option Addr) (c1 : Nat) (l1 : List Int) (a2 : Int) (r : Bool) (w : World) (hr0 : Kd.C k59 w A0 l0.length l0) (hc0 : l0.length ≤ c0) (hr1 : Kd.C (Kd.int .i64) w A1 l1.length l1) (hc1 : l1.length ≤ c1) (h : impl_areRafts.f l0 l1 a2 = some r) :
    Calls Try.prog 63 #[.slice A0 l0.length c0, .slice A1 l1.length c1, .int .i64 a2] w fun e w' => e = .returned (.bool r) ∧ Below w.heap.size w w' := by
  unfold impl_areRafts.f at h
  by_cases hh : l1.length ≤ l0.length ∧ l0.length ≤ 1048576 ∧ (∀ x ∈ l1, 0 ≤ x ∧ x < 7) ∧ (∀ x ∈ l0, vh x = true)
  · rw [if_pos hh] at h
    have hrf : Aside0 (Calls Try.prog 95 #[.slice A0 l0.length c0, .slice A1 l1.length c1] w fun e w' => ∃ vs : List Value, e = .returned (.agg vs.toArray) ∧ vs.length = 7 ∧ (∀ j, j < 7 → ∃ A c, vs.getD j undef = .slice A (withH l0 l1 j).length c ∧ (withH l0 l1 j).length ≤ c ∧ k59.C w' A (withH l0 l1 j).length (withH l0 l1 j)) ∧ Below w.heap.size w w') := ⟨impl_raftsOf.calls A0 c0 l0 A1 c1 l1 w hr0 hc0 hr1 hc1 (by unfold impl_raftsOf.f; rw [if_pos ⟨hh.1, hh.2.1, hh.2.2.1⟩])⟩
    have HH := Aside0.mk hh
    have HE := Aside0.mk (Option.some.inj h)
    clear hh hr0 hr1 hc0 hc1 h
    go_enter Try.func63, Try.ntmps63
    go_wp2_with (first | (go_at_call 95; refine hrf.out.mono ?_; rintro e w1 ⟨vs, rfl, hvl, hvs, hb1⟩; have HVS := Aside0.mk (And.intro hvl hvs); have HB1 := Aside0.mk hb1; clear hvl hvs hb1))
    go_loopg [12] 7 (fun gk v12 w' => ∃ x : Nat, v12 = .int .i64 x ∧ Aside0 (x + gk = 7) ∧ Aside0 (∀ j, j < x → fitsH l0 a2 l1 (j : Nat) = true) ∧ Aside0 (Below w1.heap.size w1 w'))
    case atStart => exact ⟨0, rfl, ⟨rfl⟩, ⟨fun j hj => by omega⟩, ⟨Below.refl _ _⟩⟩
    case round =>
      obtain ⟨x, rfl, HK, HF, HB⟩ := hrel
      by_cases c3 : (x : Int) < 7
      · have c3b : decide ((x : Int) < 7) = true := decide_eq_true c3
        have hx7 : x < 7 := by omega
        obtain ⟨A, c, hsl, hcl, hC⟩ := HVS.out.2 x hx7
        obtain ⟨xs, hxs⟩ : ∃ xs, xs = withH l0 l1 x := ⟨_, rfl⟩
        rw [← hxs] at hsl hcl hC
        have hix : vs.toArray[x]? = some (.slice A xs.length c) := by
          rw [← hsl, List.getD_eq_getElem?_getD, List.getElem?_toArray, List.getElem?_eq_getElem (by rw [HVS.out.1]; exact hx7)]
          rfl
        have hidx := fun W => index_rafts vs.toArray .i64 x hx7 _ hix W
        have hC2 := Kd.C_below hC HB.out
        have hxl : xs.length ≤ 1048576 := by rw [hxs]; have := withH_length l0 l1 x; have := HH.out; omega
        have hvx : ∀ y ∈ xs, vh y = true := fun y hy => HH.out.2.2.2 y (withH_sub (hxs ▸ hy))
        have hwr : Aside0 (∀ W1, Below wr.heap.size wr W1 → Calls Try.prog 52 #[.slice A xs.length c] W1 fun e w' => e = .returned (.int .i64 (wrongH xs)) ∧ Below W1.heap.size W1 w') := ⟨fun W1 hb =>
          impl_wrong.calls (xs.length + 1) A c _ _ W1 (Kd.C_below hC2 hb) hcl (wrong_is _ (by omega) hvx _ (by omega))⟩
        have hde : Aside0 (∀ W1, Below wr.heap.size wr W1 → Calls Try.prog 83 #[.slice A xs.length c] W1 fun e w' => e = .returned (.int .i64 (deepH xs)) ∧ Below W1.heap.size W1 w') := ⟨fun W1 hb =>
          impl_deepOf.calls (xs.length + 1) A c _ _ W1 (Kd.C_below hC2 hb) hcl (deepOf_is _ (by omega) (fun y hy => vh_in8 (hvx y hy)) _ (by omega))⟩
        have HX : Aside0 (wrap64 ((x : Int) + 1) = ((x + 1 : Nat) : Int)) := ⟨by unfold wrap64; omega⟩
        have HFX : Aside0 (fitsH l0 a2 l1 (x : Nat) = (decide (wrongH xs < 0) && decide (deepH xs ≤ a2))) := ⟨by unfold fitsH; rw [← hxs]⟩
        clear c3 hsl hcl hC hC2 hxl hxs hix hvx
        have HB0 := Aside0.mk (Below.refl wr.heap.size wr)
        by_cases c5 : wrongH xs ≥ 0
        · have c5b : decide (wrongH xs ≥ 0) = true := decide_eq_true c5
          have HR : Aside0 (r = false) := ⟨by
            rw [← HE.out]
            have e : fitsH l0 a2 l1 (x : Nat) = false := by rw [HFX.out, decide_eq_false (by omega)]; rfl
            refine Bool.eq_false_iff.2 fun g => ?_
            have := List.all_eq_true.1 g x (List.mem_range.2 hx7)
            rw [e] at this
            cases this⟩
          clear c5
          go_wp2_with (first | (go_at_call 52; refine (hwr.out _ HB0.out).mono ?_; rintro e w2 ⟨rfl, hb2⟩; have HB2 := Aside0.mk hb2; clear hb2))
          obtain rfl := HR.out
          go_ret
          exact ⟨by first | rfl | (simp; done), (HB1.out.trans (HB.out.mono HB1.out.size)).trans (HB2.out.mono (HB1.out.trans (HB.out.mono HB1.out.size)).size)⟩
        · have c5b : decide (wrongH xs ≥ 0) = false := decide_eq_false c5
          by_cases c6 : deepH xs > a2
          · have c6b : decide (deepH xs > a2) = true := decide_eq_true c6
            have HR : Aside0 (r = false) := ⟨by
              rw [← HE.out]
              have e : fitsH l0 a2 l1 (x : Nat) = false := by rw [HFX.out, decide_eq_false (p := deepH xs ≤ a2) (by omega), Bool.and_false]
              refine Bool.eq_false_iff.2 fun g => ?_
              have := List.all_eq_true.1 g x (List.mem_range.2 hx7)
              rw [e] at this
              cases this⟩
            clear c5 c6
            go_wp2_with (first | (go_at_call 52; refine (hwr.out _ HB0.out).mono ?_; rintro e w2 ⟨rfl, hb2⟩; have HB2 := Aside0.mk hb2; clear hb2) | (go_at_call 83; refine (hde.out _ HB2.out).mono ?_; rintro e w3 ⟨rfl, hb3⟩; have HB3 := Aside0.mk (HB2.out.trans (hb3.mono HB2.out.size)); clear hb3))
            obtain rfl := HR.out
            go_ret
            exact ⟨by first | rfl | (simp; done), (HB1.out.trans (HB.out.mono HB1.out.size)).trans (HB3.out.mono (HB1.out.trans (HB.out.mono HB1.out.size)).size)⟩
          · have c6b : decide (deepH xs > a2) = false := decide_eq_false c6
            have HFF : Aside0 (∀ j, j < x + 1 → fitsH l0 a2 l1 (j : Nat) = true) := ⟨fun j hj => by
              by_cases e : j = x
              · rw [e, HFX.out, decide_eq_true (by omega), decide_eq_true (by omega)]; rfl
              · exact HF.out j (by omega)⟩
            clear c5 c6
            go_wp2_with (first | (go_at_call 52; refine (hwr.out _ HB0.out).mono ?_; rintro e w2 ⟨rfl, hb2⟩; have HB2 := Aside0.mk hb2; clear hb2) | (go_at_call 83; refine (hde.out _ HB2.out).mono ?_; rintro e w3 ⟨rfl, hb3⟩; have HB3 := Aside0.mk (HB2.out.trans (hb3.mono HB2.out.size)); clear hb3))
            go_roundg (gk - 1)
            case measure => have := HK.out; omega
            case rel =>
              exact ⟨x + 1, by first | rfl | rw [HX.out], ⟨by have := HK.out; omega⟩, HFF, ⟨HB.out.trans (HB3.out.mono HB.out.size)⟩⟩
      · have c3b : decide ((x : Int) < 7) = false := decide_eq_false c3
        have hx7 : x = 7 := by have := HK.out; omega
        subst hx7
        have HR : Aside0 (r = true) := ⟨by
          rw [← HE.out]
          exact List.all_eq_true.2 fun j hj => HF.out j (List.mem_range.1 hj)⟩
        have HBo := Aside0.mk (HB1.out.trans (HB.out.mono HB1.out.size))
        clear c3
        go_wp2
        obtain rfl := HR.out
        go_ret
        exact ⟨by first | rfl | (simp; done), HBo.out⟩
  · rw [if_neg hh] at h; cases h

/-! ### slices_Clone_int64_int64: function 90: this session's own text -/
theorem infoI64 : (Try.prog.info? 2).map (fun i => (i.zero, i.size, i.bytes)) = some (some (.int .i64 0), 1, 8) := by kernel_rfl

def slices_Clone_int64_int64.f (l0 : List Int) : Option (List Int) := if l0.length < 17592186044416 then some l0 else none
set_option maxHeartbeats 8000000 in
set_option maxRecDepth 100000 in
theorem slices_Clone_int64_int64.calls (A0 : Option Addr) (c0 : Nat) (l0 : List Int) (r : List Int) (w : World) (hr0 : Kd.C (Kd.int .i64) w A0 l0.length l0) (hc0 : l0.length ≤ c0) (h : slices_Clone_int64_int64.f l0 = some r) :
    Calls Try.prog 90 #[.slice A0 l0.length c0] w fun e w' => ∃ v0_ : Value, e = .returned (v0_) ∧ Kd.R (Kd.int .i64) 2 w' w.heap.size (fun _ => True) v0_ r ∧ Below w.heap.size w w' := by
  have hq : ∀ (w : World) (a : Option Addr) (n c n' c' : Nat), (binOp .eql 30 (.slice a n c) (.slice none n' c')).run Try.prog w = .ok (.bool a.isNone) w := fun w a n c n' c' => Lib.run_eql_slice_nil w _ _ a n c n' c' Try.underlying30
  have HR0 := Aside0.mk hr0
  have HC0 := Aside0.mk hc0
  clear hr0 hc0
  have HB := Aside0.mk (Below.refl w.heap.size w)
  unfold slices_Clone_int64_int64.f at h
  by_cases c2 : l0.length < 17592186044416
  · rw [if_pos c2] at h
    have LMc2 := Aside0.mk c2
    clear c2
    have HE := Aside0.mk (Option.some.inj h)
    clear h
    cases A0 with
    | none =>
      have HN : Aside0 (l0 = []) := ⟨by
        rcases Nat.eq_zero_or_pos l0.length with h0 | h0
        · exact List.length_eq_zero_iff.1 h0
        · obtain ⟨ad, e, _⟩ := HR0.out.2.2 h0
          cases e⟩
      go_enter Try.func90, Try.ntmps90
      go_wp2
      go_ret
      refine ⟨_, rfl, ?_, Below.refl _ _⟩
      rw [← HE.out, HN.out]
      exact Kd.R_nil _ _ _ _ _
    | some a =>
      obtain ⟨y107, hy107⟩ : ∃ y_ : List Int, y_ = (([] : List Int)) := ⟨_, rfl⟩
      have Ny107 := Aside0.mk hy107
      have NL : Aside0 (y107.length + l0.length < 17592186044416) := ⟨by rw [hy107]; have := LMc2.out; simpa using this⟩
      have Ny110 : Aside0 (r = y107 ++ l0) := ⟨by rw [hy107, ← HE.out]; rfl⟩
      clear hy107
      go_enter Try.func90, Try.ntmps90
      go_wp2_with (first | ((with_reducible refine gate_dst (N := 5) rfl ?_); refine Kd.R_lit (Kd.int .i64) _ 2 ?hg (N := 5) ?hd (xs := ([] : List Int)) (inner := []) (ok := fun _ => True) (okp := fun _ => True) ?hr ?hp (fun _ hk => hk) trivial (Below.refl _ _) (Nat.le_refl _) (by simp) ?_; (case hd => rfl); (case hg => rfl); (case hr => first | (go_simp; done) | (go_simp; rfl)); (case hp => exact (Reps.none _ _)); intro v108 w3 ho4 hb hg_ hnew_; clear hg_ hnew_; (first | rw [← Ny107.out] at ho4 | (simp only [Int.reduceToNat] at ho4; rw [← Ny107.out] at ho4)); have n0_ := Aside0.mk (Kd.R_lower ho4 (below_size (by repeat (first | (with_reducible first | exact HB.out | apply below_alloc | apply pw_below_drewN | apply below_drew1) | exact HB.out)))); have n1_ := Aside0.mk (below_step (by repeat (first | (with_reducible first | exact HB.out | apply below_alloc | apply pw_below_drewN | apply below_drew1) | exact HB.out)) hb); clear HB; have HO109 := n0_; have HB := n1_; clear n0_ n1_; clear hb ho4) | ((with_reducible refine gate_builtin (b := .append) (xs := #[.tmp 5, .tmp 6]) rfl ?_); at_builtin; refine Kd.R_append_rows (Kd.int .i64) (w0 := w) w.heap.size rfl (.tmp 5) (.tmp 6) 30 2 (.int .i64 0) 8 rfl Try.underlying30 infoI64 rfl (by decide) (by omega) v108 y107 l0 _ _ _ (fun _ => True) (fun _ => False) rfl rfl ?aO ?aR (fun _ _ h => h) (fun _ h => h.elim) ?aF ?aB ?aS ?aL ?_; (case aR => repeat (first | exact (Kd.C_below HR0.out HB.out) | (with_reducible refine Kd.C_alloc ?_ _) | (with_reducible refine Kd.C_drewN ?_ _) | (with_reducible refine Kd.C_drew ?_))); (case aB => exact (by repeat (first | (with_reducible first | exact HB.out | apply below_alloc | apply pw_below_drewN | apply below_drew1) | exact HB.out))); (case aF => exact (fun _ _ => trivial)); (case aO => exact (by (with_reducible repeat (first | apply Kd.R_alloc | apply Kd.R_drewN | apply Kd.R_drew)); exact HO109.out)); (case aS => exact (below_size (by repeat (first | (with_reducible first | exact HB.out | apply below_alloc | apply pw_below_drewN | apply below_drew1) | exact HB.out)))); (case aL => have := NL.out; omega); intro v111 w5 ho hb hg hat; rw [← Ny110.out] at ho; have n0_ := Aside0.mk (hb); have n1_ := Aside0.mk (ho); clear HB; clear HO109; have HB := n0_; have HO112 := n1_; clear n0_ n1_; clear ho hb hg hat))
      go_ret
      exact ⟨_, by first | rfl | (simp; done), by (with_reducible repeat (first | apply Kd.R_alloc | apply Kd.R_drewN | apply Kd.R_drew)); exact HO112.out, by repeat (first | (with_reducible first | exact HB.out | apply below_alloc | apply pw_below_drewN | apply below_drew1) | exact HB.out)⟩
  · rw [if_neg c2] at h
    cases h

end Go.Proofs.Ytpimdgkofgendaa.PFnExactShortestQuay
