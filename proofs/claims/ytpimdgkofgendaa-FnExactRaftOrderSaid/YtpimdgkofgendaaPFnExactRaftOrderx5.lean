/- Printed by this session's plus.py out of the translation, some functions' texts being this session's own. -/
import Derived.Test.YtpimdgkofgendaaPFnExactRaftOrderx0
import Derived.Test.YtpimdgkofgendaaPFnExactRaftOrderx4
namespace Go.Proofs.Ytpimdgkofgendaa.PFnExactRaftOrder
open Go.RowKit Go.Proofs.YtpimdgkofgendaaW.PrintWords Go.Proofs.YtpimdgkofgendaaW.PrintLast Go.Proofs.YtpimdgkofgendaaW.PrintMore
attribute [local go_sem] max2_int min2_int max_two min_two max_three min_three max_four min_four   -- for this text's walks alone
set_option linter.unusedVariables false
set_option linter.unusedSimpArgs false

/-! ### impl_wrong: function 52 -/
def impl_wrong.l0 : Nat → List (S59) → Int → Option (Int)
  | 0, _, _ => none
  | k + 1, x0, x3 => if x3 < (x0.length : Int) then (if 0 ≤ (wrap64 (x3 - 1)) then (if (wrap64 (x3 - 1)) < (x0.length : Int) then (if 0 ≤ x3 then ((impl_mayLie.f ((rd_T59 x0 (wrap64 (x3 - 1))).f0) ((rd_T59 x0 (wrap64 (x3 - 1))).f1) ((rd_T59 x0 (wrap64 (x3 - 1))).f2) ((rd_T59 x0 x3).f0) ((rd_T59 x0 x3).f1) ((rd_T59 x0 x3).f2)).bind fun t184 => (if t184 = true then (impl_wrong.l0 k x0 (wrap64 (x3 + 1))) else (some x3))) else (none)) else (none)) else (none)) else (some (-1))
def impl_wrong.f (k : Nat) (l0 : List (S59)) : Option (Int) := impl_wrong.l0 k l0 1
theorem impl_wrong.mono_l : ∀ k, (∀ y0 y1, LeO (impl_wrong.l0 k y0 y1) (impl_wrong.l0 (k + 1) y0 y1))
  | 0 => fun _ _ r h => by simp [impl_wrong.l0] at h
  | k + 1 => by
    have ih0 := impl_wrong.mono_l k
    · intro y0 y1
      unfold impl_wrong.l0
      repeat' first
      | (with_reducible exact ih0 _ _)
      | (with_reducible exact LeO.refl _)
      | (with_reducible exact LeO.none _)
      | (with_reducible refine LeO.ite ?_ ?_)
      | (with_reducible refine LeO.bind ?_ (fun _ => ?_))
      | exact ih0 _ _
      | exact LeO.none _
      | refine LeO.ite ?_ ?_
      | refine LeO.bind ?_ (fun _ => ?_)
theorem impl_wrong.mono : ∀ a0 k, LeO (impl_wrong.f k a0) (impl_wrong.f (k + 1) a0) := by
  intro a0 k
  have ih0 := impl_wrong.mono_l k
  unfold impl_wrong.f
  repeat' first
      | (with_reducible exact ih0 _ _)
      | (with_reducible exact LeO.refl _)
      | (with_reducible exact LeO.none _)
      | (with_reducible refine LeO.ite ?_ ?_)
      | (with_reducible refine LeO.bind ?_ (fun _ => ?_))
      | exact ih0 _ _
      | exact LeO.none _
      | refine LeO.ite ?_ ?_
      | refine LeO.bind ?_ (fun _ => ?_)
def impl_wrong.T4 : Bool × List (List Nat × List Nat) := (true, [([], []), ([], []), ([1], [1]), ([0, 2], [0, 2]), ([3], [3]), ([], []), ([], []), ([5, 6], [5, 6]), ([7], [7]), ([4, 8], [4, 8]), ([9], [9])])
def impl_wrong.B4 : List Nat := [0, 0, 2, 7, 15, 0, 0, 96, 224, 511, 1023]
theorem impl_wrong.tab4 : rtab .any (opsOf Try.f52 4) = impl_wrong.T4 := by kernel_rfl
theorem impl_wrong.bits4 : waitsOk impl_wrong.T4.2 impl_wrong.B4 = true := by kernel_rfl
set_option maxHeartbeats 8000000 in
set_option maxRecDepth 100000 in
theorem impl_wrong.calls (k : Nat) (A0 : Option Addr) (c0 : Nat) (l0 : List (S59)) (r : Int) (w : World) (hr0 : Kd.C k59 w A0 l0.length l0) (hc0 : l0.length ≤ c0) (h : impl_wrong.f k l0 = some r) :
    Calls Try.prog 52 #[.slice A0 l0.length c0] w fun e w' => e = .returned (.int .i64 r) ∧ Below w.heap.size w w' := by
  have hu59 := Try.underlying59
  have HR0 := Aside0.mk hr0
  have HC0 := Aside0.mk hc0
  clear hr0 hc0
  have HB := Aside0.mk (Below.refl w.heap.size w)
  have H : (impl_wrong.l0 k l0 1) = some r := h
  clear h
  have H' := Aside0.mk H
  clear H
  go_enter Try.func52, Try.ntmps52
  go_wp2
  go_loopg [3] k (fun kq v3 w' => ∃ (x3_1 : Int), v3 = .int .i64 x3_1 ∧ Aside0 (impl_wrong.l0 kq l0 x3_1 = some r) ∧ Aside0 (kq ≤ k) ∧ Aside0 (Below w.heap.size w w'))
  case atStart => exact ⟨(1), (by first | rfl | (simp; done) | (simp [*]; done)), H', ⟨Nat.le_refl _⟩, ⟨by repeat (first | (with_reducible first | exact HB.out | apply below_alloc | apply pw_below_drewN | apply below_drew1) | exact HB.out)⟩⟩
  case round =>
    clear H'
    obtain ⟨x3_1, rfl, HA, HK1, HB⟩ := hrel
    cases gk with
    | zero => exact absurd HA.out (by simp [impl_wrong.l0])
    | succ k1 =>
      have H := HA.out
      clear HA
      simp only [impl_wrong.l0] at H
      by_cases c2 : x3_1 < (l0.length : Int)
      · rw [if_pos c2] at H
        have c2b0 : decide (x3_1 < (l0.length : Int)) = true := decide_eq_true c2
        clear c2
        obtain ⟨ji3, hji3⟩ : ∃ j_ : Int, (wrap64 (x3_1 - 1)) = j_ := ⟨_, rfl⟩
        replace H : (if 0 ≤ (ji3) then (if (ji3) < (l0.length : Int) then (if 0 ≤ x3_1 then ((impl_mayLie.f ((rd_T59 l0 (ji3)).f0) ((rd_T59 l0 (ji3)).f1) ((rd_T59 l0 (ji3)).f2) ((rd_T59 l0 x3_1).f0) ((rd_T59 l0 x3_1).f1) ((rd_T59 l0 x3_1).f2)).bind fun t184 => (if t184 = true then (impl_wrong.l0 k1 l0 (wrap64 (x3_1 + 1))) else (some x3_1))) else (none)) else (none)) else (none)) = some r := by first | (rw [hji3] at H; exact H) | (simp only [hji3] at H ⊢; exact H)
        have hji3w : (IntKind.i64.wrap (x3_1 - 1)) = ji3 := (i64_w _).trans hji3
        by_cases c4 : 0 ≤ (ji3)
        · rw [if_pos c4] at H
          have c4b0 : decide (0 ≤ (ji3)) = true := decide_eq_true c4
          clear c4
          by_cases c5 : (ji3) < (l0.length : Int)
          · rw [if_pos c5] at H
            have c5b0 : decide ((ji3) < (l0.length : Int)) = true := decide_eq_true c5
            clear c5
            by_cases c6 : 0 ≤ x3_1
            · rw [if_pos c6] at H
              have c6b0 : decide (0 ≤ x3_1) = true := decide_eq_true c6
              clear c6
              replace H := Option.bind_eq_some_iff.mp H
              obtain ⟨t184, A70, H⟩ := H
              replace H : (if t184 = true then (impl_wrong.l0 k1 l0 (wrap64 (x3_1 + 1))) else (some x3_1)) = some r := H
              have A7 := Aside0.mk A70
              clear A70
              by_cases c8 : t184 = true
              · subst c8
                have H1 : (impl_wrong.l0 k1 l0 (wrap64 (x3_1 + 1))) = some r := by rw [if_pos rfl] at H; exact H
                clear H
                have H := H1
                clear H1
                have H' := Aside0.mk H
                clear H
                try go_wp2
                have n0_ := Aside0.mk (below_drew1 HB.out)
                clear HB
                have HB := n0_
                clear n0_
                have p182 : 0 ≤ ((ji3) : Int) := of_decide_eq_true (by first | (with_reducible assumption) | assumption)
                have q182 : (ji3) < (l0.length : Int) := of_decide_eq_true (by first | (with_reducible assumption) | assumption)
                obtain ⟨ad182, e182, hx182_0, hx182_1, hx182_2⟩ := at_T59 HR0.out (ji3) p182 q182
                have hw182_2 := hx182_2
                have hw182_1 := hx182_1
                have hw182_0 := hx182_0
                cases e182
                replace hx182_0 := (HB.out.cell (World.block_lt_of_cell? w _ hx182_0)).trans hx182_0
                replace hx182_1 := (HB.out.cell (World.block_lt_of_cell? w _ hx182_1)).trans hx182_1
                replace hx182_2 := (HB.out.cell (World.block_lt_of_cell? w _ hx182_2)).trans hx182_2
                replace p182 := eq_true p182
                replace q182 := eq_true q182
                have p183 : 0 ≤ (x3_1 : Int) := of_decide_eq_true (by first | (with_reducible assumption) | assumption)
                have q183 : x3_1 < (l0.length : Int) := of_decide_eq_true (by first | (with_reducible assumption) | assumption)
                obtain ⟨ad183, e183, hx183_0, hx183_1, hx183_2⟩ := at_T59 HR0.out x3_1 p183 q183
                have hw183_2 := hx183_2
                have hw183_1 := hx183_1
                have hw183_0 := hx183_0
                obtain rfl : ad182 = ad183 := (by injection e183)
                replace hx183_0 := (HB.out.cell (World.block_lt_of_cell? w _ hx183_0)).trans hx183_0
                replace hx183_1 := (HB.out.cell (World.block_lt_of_cell? w _ hx183_1)).trans hx183_1
                replace hx183_2 := (HB.out.cell (World.block_lt_of_cell? w _ hx183_2)).trans hx183_2
                replace p183 := eq_true p183
                replace q183 := eq_true q183
                refine start_ (n := 11) (S := fun w' => w'.cell? (ad182.add (((ji3)).toNat * 3)) = some (.int .i8 ((rd_T59 l0 (ji3)).f0)) ∧ w'.cell? ⟨(ad182.add (((ji3)).toNat * 3)).block, (ad182.add (((ji3)).toNat * 3)).off + 1, none⟩ = some (.int .i8 ((rd_T59 l0 (ji3)).f1)) ∧ w'.cell? ⟨(ad182.add (((ji3)).toNat * 3)).block, (ad182.add (((ji3)).toNat * 3)).off + 2, none⟩ = some (.int .i8 ((rd_T59 l0 (ji3)).f2)) ∧ w'.cell? (ad182.add ((x3_1).toNat * 3)) = some (.int .i8 ((rd_T59 l0 x3_1).f0)) ∧ w'.cell? ⟨(ad182.add ((x3_1).toNat * 3)).block, (ad182.add ((x3_1).toNat * 3)).off + 1, none⟩ = some (.int .i8 ((rd_T59 l0 x3_1).f1)) ∧ w'.cell? ⟨(ad182.add ((x3_1).toNat * 3)).block, (ad182.add ((x3_1).toNat * 3)).off + 2, none⟩ = some (.int .i8 ((rd_T59 l0 x3_1).f2))) (ds := []) #[false, false, false, false, false, false, false, false, false, false, false] (by kernel_rfl) rfl rfl ⟨((HB.out.cell (World.block_lt_of_cell? w _ hw182_0)).trans hw182_0), ((HB.out.cell (World.block_lt_of_cell? w _ hw182_1)).trans hw182_1), ((HB.out.cell (World.block_lt_of_cell? w _ hw182_2)).trans hw182_2), ((HB.out.cell (World.block_lt_of_cell? w _ hw183_0)).trans hw183_0), ((HB.out.cell (World.block_lt_of_cell? w _ hw183_1)).trans hw183_1), ((HB.out.cell (World.block_lt_of_cell? w _ hw183_2)).trans hw183_2)⟩ (fun hHeld => ?_); refine with_tabW impl_wrong.tab4 impl_wrong.bits4 (fun HT_ HW_ => ?_)
                generalize wr.drew = w9 at HB hx182_0 hx182_1 hx182_2 hx183_0 hx183_1 hx183_2 hHeld ⊢
                refine pure_ (i := 0) (N := some 10) (v := ?_) (a' := ?_) #[true, false, false, false, false, false, false, false, false, false, false] rfl rfl (any_of HT_.out (by kernel_rfl)) (fun _ _ _ h => h) (Or.inl ⟨by rfl, ?_⟩) ?_ ?_
                rotate_left
                · intro w'
                  go_simp
                  with_reducible rfl
                rotate_left
                · simp only [Act.put, List.setIfInBounds_toArray, List.set_cons_zero, List.set_cons_succ, i64_w, i32_w]
                  rfl
                refine pure_ (i := 1) (N := some 11) (v := ?_) (a' := ?_) #[true, true, false, false, false, false, false, false, false, false, false] rfl rfl (any_of HT_.out (by kernel_rfl)) (fun _ _ _ h => h) (Or.inl ⟨by rfl, ?_⟩) ?_ ?_
                rotate_left
                · intro w'
                  go_simp
                  with_reducible rfl
                rotate_left
                · simp only [Act.put, List.setIfInBounds_toArray, List.set_cons_zero, List.set_cons_succ, i64_w, i32_w]
                  rfl
                refine pure_ (i := 2) (N := some 12) (v := ?_) (a' := ?_) #[true, true, true, false, false, false, false, false, false, false, false] rfl rfl (any_of HT_.out (by kernel_rfl)) (fun _ _ _ h => h) (Or.inl ⟨by rfl, ?_⟩) ?_ ?_
                rotate_left
                · intro w'
                  go_simp
                  with_reducible rfl
                rotate_left
                · simp only [Act.put, List.setIfInBounds_toArray, List.set_cons_zero, List.set_cons_succ, i64_w, i32_w]
                  rfl
                refine pure_ (i := 3) (N := some 13) (v := ?_) (a' := ?_) #[true, true, true, true, false, false, false, false, false, false, false] rfl rfl (any_of HT_.out (by kernel_rfl)) (fun _ _ _ h => h) (Or.inl ⟨by rfl, ?_⟩) ?_ ?_
                rotate_left
                · intro w'
                  go_simp
                  with_reducible rfl
                rotate_left
                · simp only [Act.put, List.setIfInBounds_toArray, List.set_cons_zero, List.set_cons_succ, i64_w, i32_w]
                  rfl
                refine pure_ (i := 5) (N := some 15) (v := ?_) (a' := ?_) #[true, true, true, true, false, true, false, false, false, false, false] rfl rfl (any_of HT_.out (by kernel_rfl)) (fun _ _ _ h => h) (Or.inl ⟨by rfl, ?_⟩) ?_ ?_
                rotate_left
                · intro w'
                  go_simp
                  with_reducible rfl
                rotate_left
                · simp only [Act.put, List.setIfInBounds_toArray, List.set_cons_zero, List.set_cons_succ, i64_w, i32_w]
                  rfl
                refine pure_ (i := 6) (N := some 16) (v := ?_) (a' := ?_) #[true, true, true, true, false, true, true, false, false, false, false] rfl rfl (any_of HT_.out (by kernel_rfl)) (fun _ _ _ h => h) (Or.inl ⟨by rfl, ?_⟩) ?_ ?_
                rotate_left
                · intro w'
                  go_simp
                  with_reducible rfl
                rotate_left
                · simp only [Act.put, List.setIfInBounds_toArray, List.set_cons_zero, List.set_cons_succ, i64_w, i32_w]
                  rfl
                refine pure_ (i := 7) (N := some 17) (v := ?_) (a' := ?_) #[true, true, true, true, false, true, true, true, false, false, false] rfl rfl (any_of HT_.out (by kernel_rfl)) (fun _ _ _ h => h) (Or.inl ⟨by rfl, ?_⟩) ?_ ?_
                rotate_left
                · intro w'
                  go_simp
                  with_reducible rfl
                rotate_left
                · simp only [Act.put, List.setIfInBounds_toArray, List.set_cons_zero, List.set_cons_succ, i64_w, i32_w]
                  rfl
                refine take_ (i := 4) (N := some 14) (v := ?_) (a' := ?_) #[true, true, true, true, true, true, true, true, false, false, false] rfl rfl (take_ofW HT_.out HW_.out (by kernel_rfl)) (fun _ _ _ h => h) (Or.inl ⟨by rfl, ?_⟩) hHeld ?_ ?_
                rotate_left
                · rintro w' ⟨s0, s1, s2, s3, s4, s5⟩
                  go_simp
                  with_reducible rfl
                rotate_left
                · simp only [Act.put, List.setIfInBounds_toArray, List.set_cons_zero, List.set_cons_succ, i64_w, i32_w]
                  rfl
                refine take_ (i := 8) (N := some 18) (v := ?_) (a' := ?_) #[true, true, true, true, true, true, true, true, true, false, false] rfl rfl (take_ofW HT_.out HW_.out (by kernel_rfl)) (fun _ _ _ h => h) (Or.inl ⟨by rfl, ?_⟩) hHeld ?_ ?_
                rotate_left
                · rintro w' ⟨s0, s1, s2, s3, s4, s5⟩
                  go_simp
                  with_reducible rfl
                rotate_left
                · simp only [Act.put, List.setIfInBounds_toArray, List.set_cons_zero, List.set_cons_succ, i64_w, i32_w]
                  rfl
                refine one_ (i := 9) (N := some 19) #[true, true, true, true, true, true, true, true, true, true, false] rfl rfl (one_of HT_.out (by kernel_rfl)) (by decide) (fun K hK => ?_)
                refine goes_ Try.func92 (by kernel_rfl) rfl #[.agg #[.int .i8 ((rd_T59 l0 (ji3)).f0), .int .i8 ((rd_T59 l0 (ji3)).f1), .int .i8 ((rd_T59 l0 (ji3)).f2)], .agg #[.int .i8 ((rd_T59 l0 x3_1).f0), .int .i8 ((rd_T59 l0 x3_1).f1), .int .i8 ((rd_T59 l0 x3_1).f2)]] (by rfl) rfl rfl (by (try simp only [List.map_toArray, List.map_cons, List.map_nil]); first | done | (simp only [hji3]; rfl) | rfl | (simp only [List.length_drop, List.length_take]; rfl)) ?_
                with_reducible refine (impl_mayLie.calls ((rd_T59 l0 (ji3)).f0) ((rd_T59 l0 (ji3)).f1) ((rd_T59 l0 (ji3)).f2) ((rd_T59 l0 x3_1).f0) ((rd_T59 l0 x3_1).f1) ((rd_T59 l0 x3_1).f2) true _ A7.out).mono ?_
                rintro e w10 ⟨rfl, hb⟩
                refine ⟨_, rfl, ?_⟩
                have n0_ := Aside0.mk (below_step (by repeat (first | (with_reducible first | exact HB.out | apply below_alloc | apply pw_below_drewN | apply below_drew1) | exact HB.out)) hb)
                clear HB
                have HB := n0_
                clear n0_
                (try clear hb)
                (try clear hb2)
                (try clear hk)
                (try clear hi)
                refine hK.out _ _ ⟨((HB.out.cell (World.block_lt_of_cell? w _ hw182_0)).trans hw182_0), ((HB.out.cell (World.block_lt_of_cell? w _ hw182_1)).trans hw182_1), ((HB.out.cell (World.block_lt_of_cell? w _ hw182_2)).trans hw182_2), ((HB.out.cell (World.block_lt_of_cell? w _ hw183_0)).trans hw183_0), ((HB.out.cell (World.block_lt_of_cell? w _ hw183_1)).trans hw183_1), ((HB.out.cell (World.block_lt_of_cell? w _ hw183_2)).trans hw183_2)⟩ (fun hHeld => ?_)
                clear hK K
                refine norm_ (a' := ?_) ?_ ?_
                rotate_left
                · show Act.put _ (some 19) _ = _
                  simp only [Act.put, List.setIfInBounds_toArray, List.set_cons_zero, List.set_cons_succ, i64_w, i32_w]
                  rfl
                refine pure_ (i := 10) (N := some 20) (v := ?_) (a' := ?_) #[true, true, true, true, true, true, true, true, true, true, true] rfl rfl (any_of HT_.out (by kernel_rfl)) (fun _ _ _ h => h) (Or.inl ⟨by rfl, ?_⟩) ?_ ?_
                rotate_left
                · intro w'
                  go_simp
                  with_reducible rfl
                rotate_left
                · simp only [Act.put, List.setIfInBounds_toArray, List.set_cons_zero, List.set_cons_succ, i64_w, i32_w]
                  rfl
                refine done_ (done_of HT_.out (by kernel_rfl)) ?_
                try go_wp2
                go_roundg k1
                case measure => have := HK1.out; omega
                case rel => exact ⟨(wrap64 (x3_1 + 1)), (by first | rfl | (simp; done) | (simp [*]; done)), H', ⟨by have := HK1.out; omega⟩, ⟨by repeat (first | (with_reducible first | exact HB.out | apply below_alloc | apply pw_below_drewN | apply below_drew1) | exact HB.out)⟩⟩
              · replace c8 := Bool.eq_false_iff.mpr c8
                subst c8
                have H1 : (some x3_1) = some r := by rw [if_neg (show ¬ (false = true) by decide)] at H; exact H
                clear H
                have H := H1
                clear H1
                obtain rfl := Option.some.inj H
                try go_wp2
                have n0_ := Aside0.mk (below_drew1 HB.out)
                clear HB
                have HB := n0_
                clear n0_
                have p182 : 0 ≤ ((ji3) : Int) := of_decide_eq_true (by first | (with_reducible assumption) | assumption)
                have q182 : (ji3) < (l0.length : Int) := of_decide_eq_true (by first | (with_reducible assumption) | assumption)
                obtain ⟨ad182, e182, hx182_0, hx182_1, hx182_2⟩ := at_T59 HR0.out (ji3) p182 q182
                have hw182_2 := hx182_2
                have hw182_1 := hx182_1
                have hw182_0 := hx182_0
                cases e182
                replace hx182_0 := (HB.out.cell (World.block_lt_of_cell? w _ hx182_0)).trans hx182_0
                replace hx182_1 := (HB.out.cell (World.block_lt_of_cell? w _ hx182_1)).trans hx182_1
                replace hx182_2 := (HB.out.cell (World.block_lt_of_cell? w _ hx182_2)).trans hx182_2
                replace p182 := eq_true p182
                replace q182 := eq_true q182
                have p183 : 0 ≤ (x3_1 : Int) := of_decide_eq_true (by first | (with_reducible assumption) | assumption)
                have q183 : x3_1 < (l0.length : Int) := of_decide_eq_true (by first | (with_reducible assumption) | assumption)
                obtain ⟨ad183, e183, hx183_0, hx183_1, hx183_2⟩ := at_T59 HR0.out x3_1 p183 q183
                have hw183_2 := hx183_2
                have hw183_1 := hx183_1
                have hw183_0 := hx183_0
                obtain rfl : ad182 = ad183 := (by injection e183)
                replace hx183_0 := (HB.out.cell (World.block_lt_of_cell? w _ hx183_0)).trans hx183_0
                replace hx183_1 := (HB.out.cell (World.block_lt_of_cell? w _ hx183_1)).trans hx183_1
                replace hx183_2 := (HB.out.cell (World.block_lt_of_cell? w _ hx183_2)).trans hx183_2
                replace p183 := eq_true p183
                replace q183 := eq_true q183
                refine start_ (n := 11) (S := fun w' => w'.cell? (ad182.add (((ji3)).toNat * 3)) = some (.int .i8 ((rd_T59 l0 (ji3)).f0)) ∧ w'.cell? ⟨(ad182.add (((ji3)).toNat * 3)).block, (ad182.add (((ji3)).toNat * 3)).off + 1, none⟩ = some (.int .i8 ((rd_T59 l0 (ji3)).f1)) ∧ w'.cell? ⟨(ad182.add (((ji3)).toNat * 3)).block, (ad182.add (((ji3)).toNat * 3)).off + 2, none⟩ = some (.int .i8 ((rd_T59 l0 (ji3)).f2)) ∧ w'.cell? (ad182.add ((x3_1).toNat * 3)) = some (.int .i8 ((rd_T59 l0 x3_1).f0)) ∧ w'.cell? ⟨(ad182.add ((x3_1).toNat * 3)).block, (ad182.add ((x3_1).toNat * 3)).off + 1, none⟩ = some (.int .i8 ((rd_T59 l0 x3_1).f1)) ∧ w'.cell? ⟨(ad182.add ((x3_1).toNat * 3)).block, (ad182.add ((x3_1).toNat * 3)).off + 2, none⟩ = some (.int .i8 ((rd_T59 l0 x3_1).f2))) (ds := []) #[false, false, false, false, false, false, false, false, false, false, false] (by kernel_rfl) rfl rfl ⟨((HB.out.cell (World.block_lt_of_cell? w _ hw182_0)).trans hw182_0), ((HB.out.cell (World.block_lt_of_cell? w _ hw182_1)).trans hw182_1), ((HB.out.cell (World.block_lt_of_cell? w _ hw182_2)).trans hw182_2), ((HB.out.cell (World.block_lt_of_cell? w _ hw183_0)).trans hw183_0), ((HB.out.cell (World.block_lt_of_cell? w _ hw183_1)).trans hw183_1), ((HB.out.cell (World.block_lt_of_cell? w _ hw183_2)).trans hw183_2)⟩ (fun hHeld => ?_); refine with_tabW impl_wrong.tab4 impl_wrong.bits4 (fun HT_ HW_ => ?_)
                generalize wr.drew = w11 at HB hx182_0 hx182_1 hx182_2 hx183_0 hx183_1 hx183_2 hHeld ⊢
                refine pure_ (i := 0) (N := some 10) (v := ?_) (a' := ?_) #[true, false, false, false, false, false, false, false, false, false, false] rfl rfl (any_of HT_.out (by kernel_rfl)) (fun _ _ _ h => h) (Or.inl ⟨by rfl, ?_⟩) ?_ ?_
                rotate_left
                · intro w'
                  go_simp
                  with_reducible rfl
                rotate_left
                · simp only [Act.put, List.setIfInBounds_toArray, List.set_cons_zero, List.set_cons_succ, i64_w, i32_w]
                  rfl
                refine pure_ (i := 1) (N := some 11) (v := ?_) (a' := ?_) #[true, true, false, false, false, false, false, false, false, false, false] rfl rfl (any_of HT_.out (by kernel_rfl)) (fun _ _ _ h => h) (Or.inl ⟨by rfl, ?_⟩) ?_ ?_
                rotate_left
                · intro w'
                  go_simp
                  with_reducible rfl
                rotate_left
                · simp only [Act.put, List.setIfInBounds_toArray, List.set_cons_zero, List.set_cons_succ, i64_w, i32_w]
                  rfl
                refine pure_ (i := 2) (N := some 12) (v := ?_) (a' := ?_) #[true, true, true, false, false, false, false, false, false, false, false] rfl rfl (any_of HT_.out (by kernel_rfl)) (fun _ _ _ h => h) (Or.inl ⟨by rfl, ?_⟩) ?_ ?_
                rotate_left
                · intro w'
                  go_simp
                  with_reducible rfl
                rotate_left
                · simp only [Act.put, List.setIfInBounds_toArray, List.set_cons_zero, List.set_cons_succ, i64_w, i32_w]
                  rfl
                refine pure_ (i := 3) (N := some 13) (v := ?_) (a' := ?_) #[true, true, true, true, false, false, false, false, false, false, false] rfl rfl (any_of HT_.out (by kernel_rfl)) (fun _ _ _ h => h) (Or.inl ⟨by rfl, ?_⟩) ?_ ?_
                rotate_left
                · intro w'
                  go_simp
                  with_reducible rfl
                rotate_left
                · simp only [Act.put, List.setIfInBounds_toArray, List.set_cons_zero, List.set_cons_succ, i64_w, i32_w]
                  rfl
                refine pure_ (i := 5) (N := some 15) (v := ?_) (a' := ?_) #[true, true, true, true, false, true, false, false, false, false, false] rfl rfl (any_of HT_.out (by kernel_rfl)) (fun _ _ _ h => h) (Or.inl ⟨by rfl, ?_⟩) ?_ ?_
                rotate_left
                · intro w'
                  go_simp
                  with_reducible rfl
                rotate_left
                · simp only [Act.put, List.setIfInBounds_toArray, List.set_cons_zero, List.set_cons_succ, i64_w, i32_w]
                  rfl
                refine pure_ (i := 6) (N := some 16) (v := ?_) (a' := ?_) #[true, true, true, true, false, true, true, false, false, false, false] rfl rfl (any_of HT_.out (by kernel_rfl)) (fun _ _ _ h => h) (Or.inl ⟨by rfl, ?_⟩) ?_ ?_
                rotate_left
                · intro w'
                  go_simp
                  with_reducible rfl
                rotate_left
                · simp only [Act.put, List.setIfInBounds_toArray, List.set_cons_zero, List.set_cons_succ, i64_w, i32_w]
                  rfl
                refine pure_ (i := 7) (N := some 17) (v := ?_) (a' := ?_) #[true, true, true, true, false, true, true, true, false, false, false] rfl rfl (any_of HT_.out (by kernel_rfl)) (fun _ _ _ h => h) (Or.inl ⟨by rfl, ?_⟩) ?_ ?_
                rotate_left
                · intro w'
                  go_simp
                  with_reducible rfl
                rotate_left
                · simp only [Act.put, List.setIfInBounds_toArray, List.set_cons_zero, List.set_cons_succ, i64_w, i32_w]
                  rfl
                refine take_ (i := 4) (N := some 14) (v := ?_) (a' := ?_) #[true, true, true, true, true, true, true, true, false, false, false] rfl rfl (take_ofW HT_.out HW_.out (by kernel_rfl)) (fun _ _ _ h => h) (Or.inl ⟨by rfl, ?_⟩) hHeld ?_ ?_
                rotate_left
                · rintro w' ⟨s0, s1, s2, s3, s4, s5⟩
                  go_simp
                  with_reducible rfl
                rotate_left
                · simp only [Act.put, List.setIfInBounds_toArray, List.set_cons_zero, List.set_cons_succ, i64_w, i32_w]
                  rfl
                refine take_ (i := 8) (N := some 18) (v := ?_) (a' := ?_) #[true, true, true, true, true, true, true, true, true, false, false] rfl rfl (take_ofW HT_.out HW_.out (by kernel_rfl)) (fun _ _ _ h => h) (Or.inl ⟨by rfl, ?_⟩) hHeld ?_ ?_
                rotate_left
                · rintro w' ⟨s0, s1, s2, s3, s4, s5⟩
                  go_simp
                  with_reducible rfl
                rotate_left
                · simp only [Act.put, List.setIfInBounds_toArray, List.set_cons_zero, List.set_cons_succ, i64_w, i32_w]
                  rfl
                refine one_ (i := 9) (N := some 19) #[true, true, true, true, true, true, true, true, true, true, false] rfl rfl (one_of HT_.out (by kernel_rfl)) (by decide) (fun K hK => ?_)
                refine goes_ Try.func92 (by kernel_rfl) rfl #[.agg #[.int .i8 ((rd_T59 l0 (ji3)).f0), .int .i8 ((rd_T59 l0 (ji3)).f1), .int .i8 ((rd_T59 l0 (ji3)).f2)], .agg #[.int .i8 ((rd_T59 l0 x3_1).f0), .int .i8 ((rd_T59 l0 x3_1).f1), .int .i8 ((rd_T59 l0 x3_1).f2)]] (by rfl) rfl rfl (by (try simp only [List.map_toArray, List.map_cons, List.map_nil]); first | done | (simp only [hji3]; rfl) | rfl | (simp only [List.length_drop, List.length_take]; rfl)) ?_
                with_reducible refine (impl_mayLie.calls ((rd_T59 l0 (ji3)).f0) ((rd_T59 l0 (ji3)).f1) ((rd_T59 l0 (ji3)).f2) ((rd_T59 l0 x3_1).f0) ((rd_T59 l0 x3_1).f1) ((rd_T59 l0 x3_1).f2) false _ A7.out).mono ?_
                rintro e w12 ⟨rfl, hb⟩
                refine ⟨_, rfl, ?_⟩
                have n0_ := Aside0.mk (below_step (by repeat (first | (with_reducible first | exact HB.out | apply below_alloc | apply pw_below_drewN | apply below_drew1) | exact HB.out)) hb)
                clear HB
                have HB := n0_
                clear n0_
                (try clear hb)
                (try clear hb2)
                (try clear hk)
                (try clear hi)
                refine hK.out _ _ ⟨((HB.out.cell (World.block_lt_of_cell? w _ hw182_0)).trans hw182_0), ((HB.out.cell (World.block_lt_of_cell? w _ hw182_1)).trans hw182_1), ((HB.out.cell (World.block_lt_of_cell? w _ hw182_2)).trans hw182_2), ((HB.out.cell (World.block_lt_of_cell? w _ hw183_0)).trans hw183_0), ((HB.out.cell (World.block_lt_of_cell? w _ hw183_1)).trans hw183_1), ((HB.out.cell (World.block_lt_of_cell? w _ hw183_2)).trans hw183_2)⟩ (fun hHeld => ?_)
                clear hK K
                refine norm_ (a' := ?_) ?_ ?_
                rotate_left
                · show Act.put _ (some 19) _ = _
                  simp only [Act.put, List.setIfInBounds_toArray, List.set_cons_zero, List.set_cons_succ, i64_w, i32_w]
                  rfl
                refine pure_ (i := 10) (N := some 20) (v := ?_) (a' := ?_) #[true, true, true, true, true, true, true, true, true, true, true] rfl rfl (any_of HT_.out (by kernel_rfl)) (fun _ _ _ h => h) (Or.inl ⟨by rfl, ?_⟩) ?_ ?_
                rotate_left
                · intro w'
                  go_simp
                  with_reducible rfl
                rotate_left
                · simp only [Act.put, List.setIfInBounds_toArray, List.set_cons_zero, List.set_cons_succ, i64_w, i32_w]
                  rfl
                refine done_ (done_of HT_.out (by kernel_rfl)) ?_
                try go_wp2
                go_ret
                exact ⟨by first | rfl | (simp [errW_none, errW_some] <;> rfl) | (simp only [← hji3]; first | rfl | (simp [errW_none, errW_some] <;> rfl)) | (simp [*, errW_none, errW_some] <;> rfl), by repeat (first | (with_reducible first | exact HB.out | apply below_alloc | apply pw_below_drewN | apply below_drew1) | exact HB.out)⟩
            · rw [if_neg c6] at H
              exact absurd H (by simp)
          · rw [if_neg c5] at H
            exact absurd H (by simp)
        · rw [if_neg c4] at H
          exact absurd H (by simp)
      · rw [if_neg c2] at H
        have c2b0 : decide (x3_1 < (l0.length : Int)) = false := decide_eq_false c2
        clear c2
        obtain rfl := Option.some.inj H
        go_wp2
        go_ret
        exact ⟨by first | rfl | (simp [errW_none, errW_some] <;> rfl) | (simp [*, errW_none, errW_some] <;> rfl), by repeat (first | (with_reducible first | exact HB.out | apply below_alloc | apply pw_below_drewN | apply below_drew1) | exact HB.out)⟩

/-! ### impl_inOrder: function 53 -/
def impl_inOrder.l0 : Nat → List (S59) → List (S59) → List Int → Int → Int → Option ((List (S59)))
  | 0, _, _, _, _, _ => none
  | k + 1, x0, x5, x9, x10, x11 => if x11 < x10 then (if 0 ≤ x11 then (if x11 < (x9.length : Int) then (if 0 ≤ (rd x9 x11) then (if (rd x9 x11) < (x0.length : Int) then (if x5.length < 46912496118442 then (impl_inOrder.l0 k x0 (x5 ++ [(⟨(rd_T59 x0 (rd x9 x11)).f0, (rd_T59 x0 (rd x9 x11)).f1, (rd_T59 x0 (rd x9 x11)).f2⟩ : S59)]) x9 x10 (wrap64 (x11 + 1))) else (none)) else (none)) else (none)) else (none)) else (none)) else (some x5)
def impl_inOrder.f (k : Nat) (l0 : List (S59)) (l1 : List Int) : Option ((List (S59))) := impl_inOrder.l0 k l0 (([] : List (S59))) l1 (l1.length : Int) 0
theorem impl_inOrder.mono_l : ∀ k, (∀ y0 y1 y2 y3 y4, LeO (impl_inOrder.l0 k y0 y1 y2 y3 y4) (impl_inOrder.l0 (k + 1) y0 y1 y2 y3 y4))
  | 0 => fun _ _ _ _ _ r h => by simp [impl_inOrder.l0] at h
  | k + 1 => by
    have ih0 := impl_inOrder.mono_l k
    · intro y0 y1 y2 y3 y4
      unfold impl_inOrder.l0
      repeat' first
      | (with_reducible exact ih0 _ _ _ _ _)
      | (with_reducible exact LeO.refl _)
      | (with_reducible exact LeO.none _)
      | (with_reducible refine LeO.ite ?_ ?_)
      | (with_reducible refine LeO.bind ?_ (fun _ => ?_))
      | exact ih0 _ _ _ _ _
      | exact LeO.none _
      | refine LeO.ite ?_ ?_
      | refine LeO.bind ?_ (fun _ => ?_)
theorem impl_inOrder.mono : ∀ a0 a1 k, LeO (impl_inOrder.f k a0 a1) (impl_inOrder.f (k + 1) a0 a1) := by
  intro a0 a1 k
  have ih0 := impl_inOrder.mono_l k
  unfold impl_inOrder.f
  repeat' first
      | (with_reducible exact ih0 _ _ _ _ _)
      | (with_reducible exact LeO.refl _)
      | (with_reducible exact LeO.none _)
      | (with_reducible refine LeO.ite ?_ ?_)
      | (with_reducible refine LeO.bind ?_ (fun _ => ?_))
      | exact ih0 _ _ _ _ _
      | exact LeO.none _
      | refine LeO.ite ?_ ?_
      | refine LeO.bind ?_ (fun _ => ?_)
set_option maxHeartbeats 8000000 in
set_option maxRecDepth 100000 in
theorem impl_inOrder.calls (k : Nat) (A0 : Option Addr) (c0 : Nat) (l0 : List (S59)) (A1 : Option Addr) (c1 : Nat) (l1 : List Int) (r : List (S59)) (w : World) (hr0 : Kd.C k59 w A0 l0.length l0) (hc0 : l0.length ≤ c0) (hr1 : Kd.C (Kd.int .i64) w A1 l1.length l1) (hc1 : l1.length ≤ c1) (h : impl_inOrder.f k l0 l1 = some r) :
    Calls Try.prog 53 #[.slice A0 l0.length c0, .slice A1 l1.length c1] w fun e w' => ∃ v0_ : Value, e = .returned (v0_) ∧ Kd.R k59 59 w' w.heap.size (fun _ => True) v0_ r ∧ Below w.heap.size w w' := by
  have hu59 := Try.underlying59
  have HR0 := Aside0.mk hr0
  have HC0 := Aside0.mk hc0
  clear hr0 hc0
  have HR1 := Aside0.mk hr1
  have HC1 := Aside0.mk hc1
  clear hr1 hc1
  have HB := Aside0.mk (Below.refl w.heap.size w)
  have H : (impl_inOrder.l0 k l0 (([] : List (S59))) l1 (l1.length : Int) 0) = some r := h
  clear h
  obtain ⟨y185, hy185⟩ : ∃ y_ : List (S59), y_ = (([] : List (S59))) := ⟨_, rfl⟩
  replace H : (impl_inOrder.l0 k l0 y185 l1 (l1.length : Int) 0) = some r := by first | (rw [hy185]; with_reducible exact H) | (have H2_ := (Option.bind_some _ _).symm.trans H; rw [hy185]; with_reducible exact H2_) | (have H2_ := (Option.bind_some _ _).symm.trans H; with_reducible exact H2_) | with_reducible exact H | (rw [hy185]; exact H) | exact H
  have Ny185 := Aside0.mk hy185
  clear hy185
  have H' := Aside0.mk H
  clear H
  go_enter Try.func53, Try.ntmps53
  go_wp2_with (first | ((with_reducible refine gate_dst (N := 8) rfl ?_); refine Kd.R_lit k59 _ 59 ?hg (N := 8) ?hd (xs := ([] : List (S59))) (inner := []) (ok := fun _ => True) (okp := fun _ => True) ?hr ?hp (fun _ hk => hk) trivial (Below.refl _ _) (Nat.le_refl _) (by simp) ?_; (case hd => rfl); (case hg => rfl); (case hr => first | (go_simp; done) | (go_simp; rfl)); (case hp => exact (Reps.none _ _)); intro v186 w3 ho4 hb hg_ hnew_; clear hg_ hnew_; (first | rw [← Ny185.out] at ho4 | (simp only [Int.reduceToNat] at ho4; rw [← Ny185.out] at ho4)); have n0_ := Aside0.mk (Kd.R_lower ho4 (below_size (by repeat (first | (with_reducible first | exact HB.out | apply below_alloc | apply pw_below_drewN | apply below_drew1) | exact HB.out)))); have n1_ := Aside0.mk (below_step (by repeat (first | (with_reducible first | exact HB.out | apply below_alloc | apply pw_below_drewN | apply below_drew1) | exact HB.out)) hb); clear HB; have HO187 := n0_; have HB := n1_; clear n0_ n1_; clear hb ho4))
  go_loopg [5, 11] k (fun kq v5 v11 w' => ∃ (x5_1 : List (S59)) (x11_1 : Int), v11 = .int .i64 x11_1 ∧ Aside0 (impl_inOrder.l0 kq l0 x5_1 l1 (l1.length : Int) x11_1 = some r) ∧ Aside0 (kq ≤ k) ∧ Aside0 (Kd.R k59 59 w' w.heap.size (fun _ => True) v5 x5_1) ∧ Aside0 (Below w.heap.size w w'))
  case atStart => exact ⟨(y185), (0), (by first | rfl | (simp; done) | (simp [*]; done)), H', ⟨Nat.le_refl _⟩, ⟨by (with_reducible repeat (first | apply Kd.R_alloc | apply Kd.R_drewN | apply Kd.R_drew)); exact HO187.out⟩, ⟨by repeat (first | (with_reducible first | exact HB.out | apply below_alloc | apply pw_below_drewN | apply below_drew1) | exact HB.out)⟩⟩
  case round =>
    clear H'
    try clear c1
    try clear p2
    obtain ⟨x5_1, x11_1, rfl, HA, HK1, HO_5, HB⟩ := hrel
    cases gk with
    | zero => exact absurd HA.out (by simp [impl_inOrder.l0])
    | succ k1 =>
      have H := HA.out
      clear HA
      simp only [impl_inOrder.l0] at H
      by_cases c5 : x11_1 < (l1.length : Int)
      · rw [if_pos c5] at H
        have c5b0 : decide (x11_1 < (l1.length : Int)) = true := decide_eq_true c5
        clear c5
        by_cases c6 : 0 ≤ x11_1
        · rw [if_pos c6] at H
          have c6b0 : decide (0 ≤ x11_1) = true := decide_eq_true c6
          clear c6
          by_cases c7 : x11_1 < (l1.length : Int)
          · rw [if_pos c7] at H
            have c7b0 : decide (x11_1 < (l1.length : Int)) = true := decide_eq_true c7
            clear c7
            by_cases c8 : 0 ≤ (rd l1 x11_1)
            · rw [if_pos c8] at H
              have c8b0 : decide (0 ≤ (rd l1 x11_1)) = true := decide_eq_true c8
              clear c8
              by_cases c9 : (rd l1 x11_1) < (l0.length : Int)
              · rw [if_pos c9] at H
                have c9b0 : decide ((rd l1 x11_1) < (l0.length : Int)) = true := decide_eq_true c9
                clear c9
                by_cases c10 : x5_1.length < 46912496118442
                · rw [if_pos c10] at H
                  have LMc10 := Aside0.mk c10
                  clear c10
                  obtain ⟨y190, hy190⟩ : ∃ y_ : List (S59), y_ = (x5_1 ++ [(⟨(rd_T59 l0 (rd l1 x11_1)).f0, (rd_T59 l0 (rd l1 x11_1)).f1, (rd_T59 l0 (rd l1 x11_1)).f2⟩ : S59)]) := ⟨_, rfl⟩
                  replace H : (impl_inOrder.l0 k1 l0 y190 l1 (l1.length : Int) (wrap64 (x11_1 + 1))) = some r := by first | (rw [hy190]; with_reducible exact H) | (have H2_ := (Option.bind_some _ _).symm.trans H; rw [hy190]; with_reducible exact H2_) | (have H2_ := (Option.bind_some _ _).symm.trans H; with_reducible exact H2_) | with_reducible exact H | (rw [hy190]; exact H) | exact H
                  have Ny190 := Aside0.mk hy190
                  clear hy190
                  have H' := Aside0.mk H
                  clear H
                  have p188 : 0 ≤ (x11_1 : Int) := of_decide_eq_true (by first | (with_reducible assumption) | assumption)
                  have q188 : x11_1 < (l1.length : Int) := of_decide_eq_true (by first | (with_reducible assumption) | assumption)
                  obtain ⟨ad188, e188, hx188_0⟩ := Kd.at_int HR1.out x11_1 p188 q188
                  cases e188
                  replace hx188_0 := (HB.out.cell (World.block_lt_of_cell? w _ hx188_0)).trans hx188_0
                  replace p188 := eq_true p188
                  replace q188 := eq_true q188
                  have p189 : 0 ≤ ((rd l1 x11_1) : Int) := of_decide_eq_true (by first | (with_reducible assumption) | assumption)
                  have q189 : (rd l1 x11_1) < (l0.length : Int) := of_decide_eq_true (by first | (with_reducible assumption) | assumption)
                  obtain ⟨ad189, e189, hx189_0, hx189_1, hx189_2⟩ := at_T59 HR0.out (rd l1 x11_1) p189 q189
                  cases e189
                  replace hx189_0 := (HB.out.cell (World.block_lt_of_cell? w _ hx189_0)).trans hx189_0
                  replace hx189_1 := (HB.out.cell (World.block_lt_of_cell? w _ hx189_1)).trans hx189_1
                  replace hx189_2 := (HB.out.cell (World.block_lt_of_cell? w _ hx189_2)).trans hx189_2
                  replace p189 := eq_true p189
                  replace q189 := eq_true q189
                  go_wp2_with (first | ((with_reducible refine gate_builtin (b := .append) (xs := #[.tmp 15, .tmp 20]) rfl ?_); at_builtin; refine Kd.R_append k59 (w0 := w) w.heap.size rfl (.tmp 15) (.tmp 20) 26 59 (.agg #[(.int .i8 0), (.int .i8 0), (.int .i8 0)]) 3 rfl Try.underlying26 info59 rfl (by decide) (by omega) u5 x5_1 (⟨(rd_T59 l0 (rd l1 x11_1)).f0, (rd_T59 l0 (rd l1 x11_1)).f1, (rd_T59 l0 (rd l1 x11_1)).f2⟩ : S59) [.int .i8 ((rd_T59 l0 (rd l1 x11_1)).f0), .int .i8 ((rd_T59 l0 (rd l1 x11_1)).f1), .int .i8 ((rd_T59 l0 (rd l1 x11_1)).f2)] (fun _ => True) (fun _ => False) rfl rfl ?aP (fun _ hk => hk.elim) ?aF ?aO ?aB ?aS ?aL ?_; (case aP => exact k59_mkM _ _ _ (⟨(rd_T59 l0 (rd l1 x11_1)).f0, (rd_T59 l0 (rd l1 x11_1)).f1, (rd_T59 l0 (rd l1 x11_1)).f2⟩ : S59)); (case aB => exact (by repeat (first | (with_reducible first | exact HB.out | apply below_alloc | apply pw_below_drewN | apply below_drew1) | exact HB.out))); (case aF => exact (fun _ _ => trivial)); (case aO => exact (by (with_reducible repeat (first | apply Kd.R_alloc | apply Kd.R_drewN | apply Kd.R_drew)); exact HO_5.out)); (case aS => exact (below_size (by repeat (first | (with_reducible first | exact HB.out | apply below_alloc | apply pw_below_drewN | apply below_drew1) | exact HB.out)))); (case aL => have := LMc10.out; omega); intro v191 w11 ho hb hg hat; rw [← Ny190.out] at ho; have n0_ := Aside0.mk (hb); have n1_ := Aside0.mk (ho); clear HB; clear HO_5; have HB := n0_; have HO192 := n1_; clear n0_ n1_; clear ho hb hg hat))
                  go_roundg k1
                  case measure => have := HK1.out; omega
                  case rel => exact ⟨(y190), (wrap64 (x11_1 + 1)), (by first | rfl | (simp; done) | (simp [*]; done)), H', ⟨by have := HK1.out; omega⟩, ⟨by (with_reducible repeat (first | apply Kd.R_alloc | apply Kd.R_drewN | apply Kd.R_drew)); exact HO192.out⟩, ⟨by repeat (first | (with_reducible first | exact HB.out | apply below_alloc | apply pw_below_drewN | apply below_drew1) | exact HB.out)⟩⟩
                · rw [if_neg c10] at H
                  exact absurd H (by simp)
              · rw [if_neg c9] at H
                exact absurd H (by simp)
            · rw [if_neg c8] at H
              exact absurd H (by simp)
          · rw [if_neg c7] at H
            exact absurd H (by simp)
        · rw [if_neg c6] at H
          exact absurd H (by simp)
      · rw [if_neg c5] at H
        have c5b0 : decide (x11_1 < (l1.length : Int)) = false := decide_eq_false c5
        clear c5
        obtain rfl := Option.some.inj H
        go_wp2
        go_ret
        exact ⟨_, by first | rfl | (simp [errW_none, errW_some] <;> rfl) | (simp [*, errW_none, errW_some] <;> rfl), by (with_reducible repeat (first | apply Kd.R_alloc | apply Kd.R_drewN | apply Kd.R_drew)); exact HO_5.out, by repeat (first | (with_reducible first | exact HB.out | apply below_alloc | apply pw_below_drewN | apply below_drew1) | exact HB.out)⟩

/-! ### impl_RaftOrder: function 24: this session's own text -/
theorem enters_any {P : Program} {f : FuncId} {fn : Func} {c : Code} (hf : P.funcs[f]? = some fn) (hname : (fn.name == "runtime.NumGoroutine") = false) (hb : fn.body = some c) (args : Array Value) (w : World) : (callFunc f args).run P w = .ok (.enter f args) w := by
  have h1 : fn.name ≠ "runtime.NumGoroutine" := by simpa using hname
  simp [callFunc, hf, h1, hb, mark]

theorem of_drop {α : Type} {xs : List α} {p : Nat} {x : α} {rest : List α} (h : xs.drop p = x :: rest) : p < xs.length ∧ xs.drop (p + 1) = rest ∧ ∀ d, xs.getD ((p : Int)).toNat d = x := by
  have hp : p < xs.length := by
    rcases Nat.lt_or_ge p xs.length with h1 | h1
    · exact h1
    · rw [List.drop_eq_nil_of_le h1] at h; cases h
  rw [List.drop_eq_getElem_cons hp] at h
  injection h with h1 h2
  refine ⟨hp, h2, fun d => ?_⟩
  rw [Int.toNat_natCast, List.getD_eq_getElem?_getD, List.getElem?_eq_getElem hp]
  exact h1

theorem of_drop_nil {α : Type} {xs : List α} {p : Nat} (h : xs.drop p = []) : xs.length ≤ p := List.drop_eq_nil_iff.1 h

theorem step64 {p n : Nat} (h : p < n) (hn : n ≤ 1152921504606846976) : wrap64 ((p : Int) + 1) = ((p + 1 : Nat) : Int) := by
  unfold wrap64
  omega

theorem take_set_at {α : Type} (ys : List α) (p : Nat) (v : α) (h : p < ys.length) : (ys.set p v).take (p + 1) = ys.take p ++ [v] := by
  rw [List.take_succ_eq_append_getElem (by simpa using h), List.take_set_of_le (Nat.le_refl _)]
  simp

theorem i8_in {a : Int} (h : (Lit.int .i8 a).wf = true) : -128 ≤ a ∧ a ≤ 127 := by
  simp [Lit.wf, IntKind.min, IntKind.max, IntKind.signed, IntKind.bits] at h
  omega

theorem i64_in {a : Int} (h : (Lit.int .i64 a).wf = true) : -9223372036854775808 ≤ a ∧ a ≤ 9223372036854775807 := by
  simp [Lit.wf, IntKind.min, IntKind.max, IntKind.signed, IntKind.bits] at h
  omega

theorem w64_id {a : Int} (h : -9223372036854775808 ≤ a ∧ a ≤ 9223372036854775807) : wrap64 a = a := by
  unfold wrap64
  omega

theorem w8_cases (a : Int) : IntKind.i8.wrap a = if a % 256 ≥ 128 then a % 256 - 256 else a % 256 := by
  simp [IntKind.wrap, IntKind.signed, IntKind.bits]

theorem some_dec {p q : Prop} [Decidable p] [Decidable q] (h : p ↔ q) : some (decide p) = some (decide q) := by rw [decide_eq_decide.2 h]
theorem some_decF {q : Prop} [Decidable q] (h : ¬ q) : some false = some (decide q) := by rw [decide_eq_false h]
theorem some_decT {q : Prop} [Decidable q] (h : q) : some true = some (decide q) := by rw [decide_eq_true h]

/-- A hull that is valid. -/
def vh (x : S59) : Bool := decide (1 ≤ x.f0 ∧ x.f0 ≤ 40 ∧ 1 ≤ x.f1 ∧ x.f1 ≤ 100 ∧ 1 ≤ x.f2 ∧ x.f2 ≤ 20)
def In8 (x : S59) : Prop := (-128 ≤ x.f0 ∧ x.f0 ≤ 127) ∧ (-128 ≤ x.f1 ∧ x.f1 ≤ 127) ∧ (-128 ≤ x.f2 ∧ x.f2 ≤ 127)

theorem implValid_is (a b c : Int) : impl_ValidHull.f a b c = some (vh ⟨a, b, c⟩) := by
  unfold impl_ValidHull.f
  show _ = some (decide (1 ≤ a ∧ a ≤ 40 ∧ 1 ≤ b ∧ b ≤ 100 ∧ 1 ≤ c ∧ c ≤ 20))
  repeat' split
  all_goals first | exact some_dec (by omega) | exact some_decF (by omega)

def codeH (l : List S59) : Int := if l.all vh then (if l.length > 7 then 3 else 0) else 1

theorem hullsCode_l0 (l : List S59) (hl : l.length ≤ 1152921504606846976) : ∀ (rest : List S59) (p k : Nat), l.drop p = rest → rest.length < k →
    impl_hullsCode.l0 k l l (l.length : Int) (p : Int) = some (if rest.all vh then (if l.length > 7 then 3 else 0) else 1) := by
  intro rest
  induction rest with
  | nil =>
    intro p k hd hk
    obtain ⟨k, rfl⟩ : ∃ m, k = m + 1 := ⟨k - 1, by simp at hk; omega⟩
    have := of_drop_nil hd
    simp only [impl_hullsCode.l0]
    rw [if_neg (by omega)]
    by_cases h : l.length > 7
    · rw [if_pos (by omega)]; simp [h]
    · rw [if_neg (by omega)]; simp [h]
  | cons x rest ih =>
    intro p k hd hk
    simp only [List.length_cons] at hk
    obtain ⟨k, rfl⟩ : ∃ m, k = m + 1 := ⟨k - 1, by omega⟩
    obtain ⟨hp, hd', hx⟩ := of_drop hd
    simp only [impl_hullsCode.l0, rd_T59, hx, implValid_is, Option.bind_some]
    rw [if_pos (by omega), if_pos (by omega), if_pos (by omega), step64 hp hl, ih (p + 1) k hd' (by omega)]
    cases hv : vh x <;> simp [hv]

theorem hullsCode_is (l : List S59) (hl : l.length ≤ 1152921504606846976) (k : Nat) (hk : l.length < k) : impl_hullsCode.f k l = some (codeH l) := by
  unfold impl_hullsCode.f codeH
  exact hullsCode_l0 l hl l 0 k rfl hk

theorem codeH_ok {l : List S59} (h : codeH l = 0) : l.length ≤ 7 ∧ ∀ x ∈ l, vh x = true := by
  unfold codeH at h
  split at h
  · rename_i ha
    split at h
    · cases h
    · exact ⟨by omega, by simpa using ha⟩
  · cases h

def mayH (x y : S59) : Bool := decide (x.f2 - y.f2 ≤ 2 ∧ y.f2 - x.f2 ≤ 2 ∧ y.f1 ≤ x.f1 + 3)

/-- The program takes the difference of the heights as an int8: with valid hulls nothing wraps. -/
theorem implMay_is (x y : S59) (hx : vh x = true) (hy : vh y = true) : impl_mayLie.f x.f0 x.f1 x.f2 y.f0 y.f1 y.f2 = some (mayH x y) := by
  simp only [vh, decide_eq_true_eq] at hx hy
  unfold impl_mayLie.f mayH
  have e : IntKind.i8.wrap (x.f2 - y.f2) = x.f2 - y.f2 := by
    rw [w8_cases]
    split <;> omega
  rw [e, w64_id (a := x.f1) (by omega), w64_id (a := y.f1) (by omega), w64_id (by omega)]
  repeat' split
  all_goals first | exact some_dec (by omega) | exact some_decF (by omega)

/-- The first hull that may not lie where it lies, from place i on. -/
def wrongFrom : Int → S59 → List S59 → Int
  | _, _, [] => -1
  | i, x, y :: r => if mayH x y then wrongFrom (i + 1) y r else i
def wrongH : List S59 → Int
  | [] => -1
  | x :: r => wrongFrom 1 x r

theorem wrongFrom_ge (r : List S59) : ∀ (i : Int) (x : S59), 0 ≤ i → -1 ≤ wrongFrom i x r ∧ wrongFrom i x r < i + r.length ∨ wrongFrom i x r = -1 := by
  induction r with
  | nil => intro i x _; right; rfl
  | cons y r ih =>
    intro i x h0
    simp only [wrongFrom, List.length_cons]
    split
    · rcases ih (i + 1) y (by omega) with h | h
      · left; omega
      · right; exact h
    · left; omega

theorem wrong_l0 (l : List S59) (hl : l.length ≤ 1152921504606846976) (hv : ∀ x ∈ l, vh x = true) : ∀ (rest : List S59) (x : S59) (p k : Nat), l.drop p = x :: rest → rest.length < k →
    impl_wrong.l0 k l ((p + 1 : Nat) : Int) = some (wrongFrom ((p + 1 : Nat) : Int) x rest) := by
  intro rest
  induction rest with
  | nil =>
    intro x p k hd hk
    obtain ⟨k, rfl⟩ : ∃ m, k = m + 1 := ⟨k - 1, by simp at hk; omega⟩
    obtain ⟨hp, hd', hx⟩ := of_drop hd
    have := of_drop_nil hd'
    simp only [impl_wrong.l0, wrongFrom]
    rw [if_neg (by omega)]
  | cons y rest ih =>
    intro x p k hd hk
    simp only [List.length_cons] at hk
    obtain ⟨k, rfl⟩ : ∃ m, k = m + 1 := ⟨k - 1, by omega⟩
    obtain ⟨hp, hd', hx⟩ := of_drop hd
    obtain ⟨hp', hd'', hy⟩ := of_drop hd'
    have vx := hv x (List.mem_of_mem_drop (by rw [hd]; exact List.mem_cons_self))
    have vy := hv y (List.mem_of_mem_drop (by rw [hd']; exact List.mem_cons_self))
    have e1 : wrap64 (((p + 1 : Nat) : Int) - 1) = (p : Int) := by rw [w64_id (by omega)]; omega
    simp only [impl_wrong.l0, e1, rd_T59, hx, hy, implMay_is x y vx vy, Option.bind_some, wrongFrom]
    rw [if_pos (by omega), if_pos (by omega), if_pos (by omega), if_pos (by omega), step64 hp' hl]
    rw [ih y (p + 1) k hd' (by omega)]
    cases mayH x y <;> simp [w64_id] <;> rfl

theorem wrong_is (l : List S59) (hl : l.length ≤ 1152921504606846976) (hv : ∀ x ∈ l, vh x = true) (k : Nat) (hk : l.length < k) : impl_wrong.f k l = some (wrongH l) := by
  unfold impl_wrong.f
  cases l with
  | nil =>
    obtain ⟨k, rfl⟩ : ∃ m, k = m + 1 := ⟨k - 1, by simp at hk; omega⟩
    simp only [impl_wrong.l0]
    rw [if_neg (by simp)]
    rfl
  | cons x r =>
    have := wrong_l0 (x :: r) hl hv r x 0 k rfl (by simp at hk; omega)
    simpa [wrongH] using this

theorem vh_in8 {x : S59} (h : vh x = true) : In8 x := by
  simp only [vh, decide_eq_true_eq] at h
  exact ⟨by omega, by omega, by omega⟩

def pickH (l : List S59) (o : List Int) : List S59 := o.map fun i => rd_T59 l i
theorem inOrder_l0 (l : List S59) (o : List Int) (ho : o.length ≤ 1048576) (hin : ∀ x ∈ o, 0 ≤ x ∧ x < l.length) : ∀ (rest : List Int) (p k : Nat) (ys : List S59), o.drop p = rest → rest.length < k → ys.length = p →
    impl_inOrder.l0 k l ys o (o.length : Int) (p : Int) = some (ys ++ pickH l rest) := by
  intro rest
  induction rest with
  | nil =>
    intro p k ys hd hk hy
    obtain ⟨k, rfl⟩ : ∃ m, k = m + 1 := ⟨k - 1, by simp at hk; omega⟩
    have := of_drop_nil hd
    simp only [impl_inOrder.l0, pickH, List.map_nil, List.append_nil]
    rw [if_neg (by omega)]
  | cons x rest ih =>
    intro p k ys hd hk hy
    simp only [List.length_cons] at hk
    obtain ⟨k, rfl⟩ : ∃ m, k = m + 1 := ⟨k - 1, by omega⟩
    obtain ⟨hp, hd', hx⟩ := of_drop hd
    have hxi := hin x (List.mem_of_mem_drop (by rw [hd]; exact List.mem_cons_self))
    simp only [impl_inOrder.l0, rd, hx]
    rw [if_pos (by omega), if_pos (by omega), if_pos (by omega), if_pos hxi.1, if_pos hxi.2, if_pos (by omega), step64 hp (by omega), ih (p + 1) k _ hd' (by omega) (by simp [hy])]
    simp [pickH]
theorem inOrder_is (l : List S59) (o : List Int) (ho : o.length ≤ 1048576) (hin : ∀ x ∈ o, 0 ≤ x ∧ x < l.length) (k : Nat) (hk : o.length < k) : impl_inOrder.f k l o = some (pickH l o) := by
  unfold impl_inOrder.f
  have := inOrder_l0 l o ho hin o 0 k [] rfl hk rfl
  simpa using this
theorem pickH_valid {l : List S59} {o : List Int} (hv : ∀ x ∈ l, vh x = true) (hin : ∀ x ∈ o, 0 ≤ x ∧ x < l.length) : ∀ x ∈ pickH l o, vh x = true := by
  intro x hx
  obtain ⟨i, hi, rfl⟩ := List.mem_map.1 hx
  have := hin i hi
  refine hv _ ?_
  rw [rd_T59, List.getD_eq_getElem?_getD, List.getElem?_eq_getElem (by omega)]
  exact List.getElem_mem _

def foundSt (l : List S59) (s : Bool × List Int) (o : List Int) : (Bool × List Int) × Bool := ((decide (wrongH (pickH l o) < 0), o), !decide (wrongH (pickH l o) < 0))
def foundR (l : List S59) : Bool × List Int := (runAll (foundSt l) (false, []) (exts l.length l.length [])).1
def impl_RaftOrder.f (l0 : List S59) : Option (List Int × Int) := if l0.length ≤ 1048576 then some (if codeH l0 = 0 then (if (foundR l0).1 = true then ((foundR l0).2, 0) else ([], 6)) else ([], codeH l0)) else none
/-- The state of the search in memory: the list's variable, the found one's, the flag's. -/
def FoundInv (w0 : World) (A0 : Option Addr) (c0 : Nat) (l0 : List S59) (L O F : Nat) (G : Nat) (s : Bool × List Int) (W : World) : Prop :=
  Below w0.heap.size w0 W ∧ W.heap[L]? = some (.cells #[.slice A0 l0.length c0] 26 (0, 0)) ∧ W.heap[F]? = some (.cells #[.bool s.1] 4 (0, 0)) ∧ ∃ v, W.heap[O]? = some (.cells #[v] 30 (0, 0)) ∧ Kd.R (Kd.int .i64) 2 W (G + 1) (fun _ => True) v s.2
theorem own_step {W W' : World} {B : Nat} {v : Value} {xs : List Int} (h : Kd.R (Kd.int .i64) 2 W B (fun _ => True) v xs) (hm : ∀ k, B ≤ k → k < W.heap.size → W'.heap[k]? = W.heap[k]?) : Kd.R (Kd.int .i64) 2 W' B (fun _ => True) v xs :=
  Kd.R_mono (Kd.R_step (Kd.R_bound h) (fun k hk hlt => hm k hk.2.1 hlt)) (fun _ _ => trivial)
theorem own_only {S : Nat → Prop} {W W' : World} {B : Nat} {v : Value} {xs : List Int} (h : Kd.R (Kd.int .i64) 2 W B (fun _ => True) v xs) (k : Only S W W') (hs : ∀ i, S i → i < B) : Kd.R (Kd.int .i64) 2 W' B (fun _ => True) v xs :=
  own_step h (fun i hi hlt => k.block i hlt (fun g => by have := hs i g; omega))
set_option maxHeartbeats 4000000 in
set_option maxRecDepth 100000 in
theorem found_cb (w0 : World) (A0 : Option Addr) (c0 : Nat) (l0 : List S59) (hr0 : Kd.C k59 w0 A0 l0.length l0) (hc0 : l0.length ≤ c0) (hv : ∀ x ∈ l0, vh x = true) (h7 : l0.length ≤ 7) (L O F B0 : Nat) (hL : w0.heap.size ≤ L) (hO : L < O) (hF : O < F) (hB : F < B0) :
    Cb (Bool × List Int) l0.length B0 64 #[.pointer (some ⟨L, 0, none⟩), .pointer (some ⟨F, 0, none⟩), .pointer (some ⟨O, 0, none⟩)] (foundSt l0) (FoundInv w0 A0 c0 l0 L O F) where
  enters := enters_any Try.func64 (by kernel_rfl) rfl
  stays := by
    intro G s W W' hG ⟨h1, h2, h3, v, h4, h5⟩ hO
    have e1 := blk_lt h2
    have e2 := blk_lt h3
    have e3 := blk_lt h4
    refine ⟨Only.below h1 hO h1.size (fun i hi => by subst hi; omega), hO.blk h2 (fun e => by subst e; omega), hO.blk h3 (fun e => by subst e; omega), v, hO.blk h4 (fun e => by subst e; omega), own_only h5 hO (fun i hi => by subst hi; omega)⟩
  called := by
    intro G s W v o hG hGl hI hR ho hin
    obtain ⟨A1, c1, rfl, hc1, hr1⟩ := Kd.R_reads hR
    obtain ⟨h1, h2, h3, vo, h4, h5⟩ := hI
    have hio : Aside0 (∀ W1, Below W.heap.size W W1 → Calls Try.prog 53 #[.slice A0 l0.length c0, .slice A1 o.length c1] W1 fun e w' => ∃ v0_ : Value, e = .returned v0_ ∧ Kd.R k59 59 w' W1.heap.size (fun _ => True) v0_ (pickH l0 o) ∧ Below W1.heap.size W1 w') := ⟨fun W1 hb =>
      impl_inOrder.calls (o.length + 1) A0 c0 l0 A1 c1 o _ W1 (Kd.C_below (Kd.C_below hr0 h1) hb) hc0 (Kd.C_below hr1 hb) hc1 (inOrder_is l0 o (by omega) hin _ (by omega))⟩
    have hpl : (pickH l0 o).length = o.length := by simp [pickH]
    have hwr : Aside0 (∀ W1 A2 c2, Kd.C k59 W1 A2 (pickH l0 o).length (pickH l0 o) → (pickH l0 o).length ≤ c2 → Calls Try.prog 52 #[.slice A2 (pickH l0 o).length c2] W1 fun e w' => e = .returned (.int .i64 (wrongH (pickH l0 o))) ∧ Below W1.heap.size W1 w') := ⟨fun W1 A2 c2 hC hc =>
      impl_wrong.calls ((pickH l0 o).length + 1) A2 c2 _ _ W1 hC hc (wrong_is _ (by omega) (pickH_valid hv hin) _ (by omega))⟩
    have hLc := blk_cell h2 0
    have HF := Aside0.mk h3
    have HO := Aside0.mk h4
    have HV := Aside0.mk hR
    have HW := Aside0.mk (And.intro h1 h2)
    have HLt : Aside0 (L < W.heap.size ∧ F < W.heap.size ∧ O < W.heap.size ∧ B0 ≤ G) := ⟨blk_lt h2, blk_lt h3, blk_lt h4, hG⟩
    have HB := Aside0.mk (Below.refl W.heap.size W)
    obtain ⟨b, hb⟩ : ∃ b, b = decide (wrongH (pickH l0 o) < 0) := ⟨_, rfl⟩
    have HST : Aside0 (foundSt l0 s o = ((b, o), !b)) := ⟨by unfold foundSt; rw [hb]⟩
    have c6b := hb.symm
    clear h1 h2 h3 h4 h5 hR hr1 hc1 hc0 hr0 hin ho hG hGl hpl hb
    go_enter Try.func64, Try.ntmps64
    go_wp2_with (first | (go_at_call 53; refine (hio.out _ ?_).mono ?_; (exact HB.out); rintro e w1 ⟨v2, rfl, hv2, hb2⟩; obtain ⟨A2, c2, rfl, hc2, hr2⟩ := Kd.R_reads hv2; have HR2 := Aside0.mk (And.intro hr2 hc2); have HB2 := Aside0.mk hb2; clear hv2 hr2 hc2 hb2) | (go_at_call 52; refine (hwr.out _ _ _ HR2.out.1 HR2.out.2).mono ?_; rintro e w2 ⟨rfl, hb3⟩; have HB3 := Aside0.mk (HB2.out.trans (hb3.mono HB2.out.size)); clear hb3; have hFb := blk_below HF.out HB3.out; have hOb := blk_below HO.out HB3.out; have hFc := blk_cell hFb 0; have hFf := blk_frozen hFb 0; have hOc := blk_cell hOb 0; have hOf := blk_frozen hOb 0; have HMB := Aside0.mk (And.intro hFb hOb); clear hFb hOb))
    go_ret
    have hO : Only (· < B0) W ((w2.setCell ⟨F, 0, none⟩ (.bool b)).setCell ⟨O, 0, none⟩ (.slice A1 o.length c1)) := Only.set (S := (· < B0)) (Only.set (S := (· < B0)) (Only.of_below HB3.out) (show F < B0 by omega) 0 _) (show O < B0 by omega) 0 _
    refine ⟨by rw [HST.out]; first | rfl | (simp; done), ?_, hO⟩
    rw [HST.out]
    exact ⟨((HW.out.1.trans (HB3.out.mono HW.out.1.size)).setCell (show w0.heap.size ≤ F by omega) _).setCell (show w0.heap.size ≤ O by omega) _, blk_far (blk_far (blk_below HW.out.2 HB3.out) (show L ≠ F by omega) _) (show L ≠ O by omega) _, blk_far (blk_set HMB.out.1 0 _) (show F ≠ O by omega) _, _, blk_set (blk_far HMB.out.2 (show O ≠ F by omega) _) 0 _, own_only HV.out hO (fun i hi => by have := HLt.out.2.2.2; omega)⟩
set_option maxHeartbeats 4000000 in
set_option maxRecDepth 100000 in
theorem impl_RaftOrder.calls (A0 : Option Addr) (c0 : Nat) (l0 : List (S59)) (r1 : List Int) (r2 : Int) (w : World) (hr0 : Kd.C k59 w A0 l0.length l0) (hc0 : l0.length ≤ c0) (h : impl_RaftOrder.f l0 = some (r1, r2)) :
    Calls Try.prog 24 #[.slice A0 l0.length c0] w fun e w' => ∃ v0_ : Value, e = .returned (.tuple #[v0_, .int .i64 r2]) ∧ Kd.R (Kd.int .i64) 2 w' w.heap.size (fun _ => True) v0_ r1 ∧ Below w.heap.size w w' := by
  have hcode : codeH l0 = 0 ∨ codeH l0 ≠ 0 := by omega
  have HR0 := Aside0.mk hr0
  have HC0 := Aside0.mk hc0
  unfold impl_RaftOrder.f at h
  have hl : l0.length ≤ 1048576 := by
    rcases Nat.lt_or_ge 1048576 l0.length with g | g
    · rw [if_neg (by omega)] at h; cases h
    · exact g
  rw [if_pos hl] at h
  have hco : Aside0 (∀ W1, Below w.heap.size w W1 → Calls Try.prog 49 #[.slice A0 l0.length c0] W1 fun e w' => e = .returned (.int .i64 (codeH l0)) ∧ Below W1.heap.size W1 w') := ⟨fun W1 hb =>
    impl_hullsCode.calls (l0.length + 1) A0 c0 l0 _ W1 (Kd.C_below hr0 hb) hc0 (hullsCode_is l0 (by omega) _ (by omega))⟩
  have HB := Aside0.mk (Below.refl w.heap.size w)
  rcases hcode with hc | hc
  · have hok := codeH_ok hc
    rw [if_pos hc] at h
    obtain ⟨b, hbf⟩ : ∃ b, b = (foundR l0).1 := ⟨_, rfl⟩
    have hor : Aside0 (∀ w1, Below (w.heap.size + 1) (w.alloc (.cells #[.slice A0 l0.length c0] 26)) w1 → Calls Try.prog 50 #[.int .i64 l0.length, .func (.func 64) #[] #[.pointer (some ⟨w.heap.size, 0, none⟩), .pointer (some ⟨w1.heap.size + 1, 0, none⟩), .pointer (some ⟨w1.heap.size, 0, none⟩)]] ((w1.alloc (.cells #[.slice none 0 0] 30)).alloc (.cells #[.bool false] 4)) fun e w' => e = .returned (.tuple #[]) ∧ Below w.heap.size w w' ∧ w'.cell? ⟨w1.heap.size + 1, 0, none⟩ = some (.bool b) ∧ ∃ v, w'.cell? ⟨w1.heap.size, 0, none⟩ = some v ∧ Kd.R (Kd.int .i64) 2 w' w.heap.size (fun _ => True) v (foundR l0).2) := ⟨fun w1 hb => by
      have hs : w.heap.size + 1 ≤ w1.heap.size := by have := hb.size; simpa using this
      have hL : w1.heap[w.heap.size]? = some (.cells #[.slice A0 l0.length c0] 26 (0, 0)) := (hb.block _ (by omega)).trans (blk_new w _)
      have s1 : (w1.alloc (.cells #[.slice none 0 0] 30)).heap.size = w1.heap.size + 1 := by simp
      have C := found_cb w A0 c0 l0 hr0 hc0 hok.2 hok.1 w.heap.size w1.heap.size (w1.heap.size + 1) ((w1.alloc (.cells #[.slice none 0 0] 30)).alloc (.cells #[.bool false] 4)).heap.size (Nat.le_refl _) (by omega) (by omega) (by simp)
      have hw1 : Below w.heap.size w w1 := (below_alloc (Below.refl _ _) _).trans (hb.mono (by omega))
      have hO : ((w1.alloc (.cells #[.slice none 0 0] 30)).alloc (.cells #[.bool false] 4)).heap[w1.heap.size]? = some (.cells #[.slice none 0 0] 30 (0, 0)) := blk_alloc (blk_new w1 _) _
      have hF : ((w1.alloc (.cells #[.slice none 0 0] 30)).alloc (.cells #[.bool false] 4)).heap[w1.heap.size + 1]? = some (.cells #[.bool false] 4 (0, 0)) := by
        have := blk_new (w1.alloc (.cells #[.slice none 0 0] 30)) (.cells #[.bool false] 4)
        rw [s1] at this
        exact this
      have := impl_orders.calls ((w1.alloc (.cells #[.slice none 0 0] 30)).alloc (.cells #[.bool false] 4)) C (by omega) (false, []) (fun G W hG hW => ⟨((hw1.alloc hw1.size _).alloc (by simp; have := hw1.size; omega) _).trans (hW.mono (by have := hw1.size; simp; omega)), blk_below (blk_alloc (blk_alloc hL _) _) hW, blk_below hF hW, _, blk_below hO hW, Kd.R_nil _ _ _ _ _⟩)
      exact this.mono fun e w' ⟨h1, G, hG, h2⟩ => ⟨h1, h2.1, (blk_cell h2.2.2.1 0).trans (by rw [hbf]; rfl), by
        obtain ⟨v, h3, h4⟩ := h2.2.2.2
        have hG' : w.heap.size ≤ G := by have := hw1.size; simp at hG; omega
        exact ⟨v, blk_cell h3 0, Kd.R_lower h4 (by omega)⟩⟩⟩
    have hcz := hc
    rw [hc] at hco
    simp only [Option.some.injEq, Prod.mk.injEq] at h
    rw [← hbf] at h
    have HH := Aside0.mk h
    clear hr0 hc0 hok hcz hc hl HR0 HC0 h hbf
    cases b with
    | true =>
      have HH2 : Aside0 ((foundR l0).2 = r1 ∧ (0 : Int) = r2) := ⟨by have := HH.out; rw [if_pos rfl] at this; exact ⟨congrArg Prod.fst this, congrArg Prod.snd this⟩⟩
      go_enter Try.func24, Try.ntmps24
      go_wp2_with (first | (go_at_call 49; refine (hco.out _ ?_).mono ?_; (exact below_alloc HB.out _); rintro e w1 ⟨rfl, hb1⟩; have hL1 : ∀ o o', ((w1.alloc o).alloc o').cell? ⟨w.heap.size, 0, none⟩ = some (.slice A0 l0.length c0) := (fun o o' => blk_cell (blk_alloc (blk_alloc ((hb1.block w.heap.size (by simp)).trans (blk_new w _)) o) o') 0); have HB1 : Aside0 (Below (w.heap.size + 1) (w.alloc (.cells #[.slice A0 l0.length c0] 26)) w1) := ⟨hb1.mono (by simp)⟩; clear hb1) | (go_at_call 50; refine (hor.out _ HB1.out).mono ?_; rintro e w2 ⟨rfl, hb2, hcm, vo, hco2, hro⟩; have HB2 := Aside0.mk hb2; have HRO := Aside0.mk hro; clear hb2 hro))
      exact bodyPost_ret (v := .tuple #[vo, .int .i64 0]) (by simp [results, Try.results24, go_sem]) rfl ⟨_, by rw [← HH2.out.2], by rw [← HH2.out.1]; exact HRO.out, HB2.out⟩
    | false =>
      have HH2 : Aside0 (([] : List Int) = r1 ∧ (6 : Int) = r2) := ⟨by have := HH.out; rw [if_neg (by simp)] at this; exact ⟨congrArg Prod.fst this, congrArg Prod.snd this⟩⟩
      go_enter Try.func24, Try.ntmps24
      go_wp2_with (first | (go_at_call 49; refine (hco.out _ ?_).mono ?_; (exact below_alloc HB.out _); rintro e w1 ⟨rfl, hb1⟩; have hL1 : ∀ o o', ((w1.alloc o).alloc o').cell? ⟨w.heap.size, 0, none⟩ = some (.slice A0 l0.length c0) := (fun o o' => blk_cell (blk_alloc (blk_alloc ((hb1.block w.heap.size (by simp)).trans (blk_new w _)) o) o') 0); have HB1 : Aside0 (Below (w.heap.size + 1) (w.alloc (.cells #[.slice A0 l0.length c0] 26)) w1) := ⟨hb1.mono (by simp)⟩; clear hb1) | (go_at_call 50; refine (hor.out _ HB1.out).mono ?_; rintro e w2 ⟨rfl, hb2, hcm, vo, hco2, hro⟩; have HB2 := Aside0.mk hb2; have HRO := Aside0.mk hro; clear hb2 hro))
      exact bodyPost_ret (v := .tuple #[.slice none 0 0, .int .i64 6]) (by simp [results, Try.results24, go_sem]) rfl ⟨_, by rw [← HH2.out.2], by rw [← HH2.out.1]; exact Kd.R_nil _ _ _ _ _, HB2.out⟩
  · rw [if_neg hc] at h
    simp only [Option.some.injEq, Prod.mk.injEq] at h
    obtain ⟨rfl, rfl⟩ := h
    have hcb : (codeH l0 == 0) = false := beq_eq_false_iff_ne.mpr hc
    have hcb' : (codeH l0 != 0) = true := bne_iff_ne.mpr hc
    clear hr0 hc0 hl hc HR0 HC0
    go_enter Try.func24, Try.ntmps24
    go_wp2_with (first | (go_at_call 49; refine (hco.out _ ?_).mono ?_; (exact below_alloc HB.out _); rintro e w1 ⟨rfl, hb1⟩; have HB1 := Aside0.mk hb1; clear hb1))
    exact bodyPost_ret (v := .tuple #[.slice none 0 0, .int .i64 (codeH l0)]) (by simp [results, Try.results24, go_sem]) rfl ⟨_, rfl, Kd.R_nil _ _ _ _ _, (below_alloc (Below.refl _ _) _).trans (HB1.out.mono (by simp))⟩

end Go.Proofs.Ytpimdgkofgendaa.PFnExactRaftOrder
