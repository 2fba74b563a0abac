/- Printed by this session's plus.py out of the translation, some functions' texts being this session's own. -/
import Derived.Test.YtpimdgkofgendaaPFnExactFirstTripsx0
namespace Go.Proofs.Ytpimdgkofgendaa.PFnExactFirstTrips
open Go.RowKit Go.Proofs.YtpimdgkofgendaaW.PrintWords Go.Proofs.YtpimdgkofgendaaW.PrintLast Go.Proofs.YtpimdgkofgendaaW.PrintMore
attribute [local go_sem] max2_int min2_int max_two min_two max_three min_three max_four min_four   -- for this text's walks alone
set_option linter.unusedVariables false
set_option linter.unusedSimpArgs false

/-! ### impl_isCount: function 107 -/
def impl_isCount.f (a0_0 : Int) (a0_1 : Int) (a0_2 : Int) : Option (Bool) := if a0_2 ≥ 1 then (some (decide (a0_2 ≤ 12))) else (some false)
set_option maxHeartbeats 8000000 in
set_option maxRecDepth 100000 in
theorem impl_isCount.calls (a0_0 : Int) (a0_1 : Int) (a0_2 : Int) (r : Bool) (w : World) (h : impl_isCount.f a0_0 a0_1 a0_2 = some r) :
    Calls Try.prog 107 #[.agg #[.int .i8 a0_0, .int .i8 a0_1, .int .i8 a0_2]] w fun e w' => e = .returned (.bool r) ∧ Below w.heap.size w w' := by
  have hu90 := Try.underlying90
  have HB := Aside0.mk (Below.refl w.heap.size w)
  have H : (if a0_2 ≥ 1 then (some (decide (a0_2 ≤ 12))) else (some false)) = some r := h
  clear h
  by_cases c2 : a0_2 ≥ 1
  · rw [if_pos c2] at H
    have c2b0 : decide (1 ≤ a0_2) = true := decide_eq_true c2
    clear c2
    obtain rfl := Option.some.inj H
    go_enter Try.func107, Try.ntmps107
    go_wp2_with (first | ((with_reducible refine gate_dst (N := 1) rfl ?_); refine box_event ?hg (N := 1) ?hd (cs := #[.int .i8 a0_0, .int .i8 a0_1, .int .i8 a0_2]) (t := 90) ?hr ?_; (case hd => rfl); (case hg => rfl); (case hr => first | (go_simp; done) | (go_simp; rfl)); intro gb172 hg w3 hbox hb; have n0_ := Aside0.mk (below_step (by repeat (first | (with_reducible first | exact HB.out | apply below_alloc | apply pw_below_drewN | apply below_drew1) | exact HB.out)) hb); have n1_ := Aside0.mk (hbox); have n2_ := Aside0.mk ((by rw [hg]; exact (below_size (by repeat (first | (with_reducible first | exact HB.out | apply below_alloc | apply pw_below_drewN | apply below_drew1) | exact HB.out))) : w.heap.size ≤ gb172)); have n3_ := Aside0.mk ((by rw [hg]; exact (below_size (by repeat (first | (with_reducible first | exact HB.out | apply below_alloc | apply pw_below_drewN | apply below_drew1) | exact HB.out))) : w.heap.size ≤ gb172)); clear HB; have HB := n0_; have BK172 := n1_; have GW172 := n2_; have GE172 := n3_; clear n0_ n1_ n2_ n3_; clear hb hbox hg; have hcz4_0 : w3.cell? ⟨gb172, 0, none⟩ = some (.int .i8 a0_0) := (blk_cell BK172.out 0).trans rfl; have hcz4_1 : w3.cell? ⟨gb172, 1, none⟩ = some (.int .i8 a0_1) := (blk_cell BK172.out 1).trans rfl; have hcz4_2 : w3.cell? ⟨gb172, 2, none⟩ = some (.int .i8 a0_2) := (blk_cell BK172.out 2).trans rfl; have hfz4_0 := blk_frozen BK172.out 0; have hfz4_1 := blk_frozen BK172.out 1; have hfz4_2 := blk_frozen BK172.out 2))
    go_ret
    exact ⟨by first | rfl | (simp [errW_none, errW_some] <;> rfl) | (simp [*, errW_none, errW_some] <;> rfl), by repeat (first | (with_reducible first | exact HB.out | apply below_alloc | apply pw_below_drewN | apply below_drew1 | refine below_set ?_ GE172.out) | exact HB.out)⟩
  · rw [if_neg c2] at H
    have c2b0 : decide (1 ≤ a0_2) = false := decide_eq_false c2
    clear c2
    obtain rfl := Option.some.inj H
    go_enter Try.func107, Try.ntmps107
    go_wp2_with (first | ((with_reducible refine gate_dst (N := 1) rfl ?_); refine box_event ?hg (N := 1) ?hd (cs := #[.int .i8 a0_0, .int .i8 a0_1, .int .i8 a0_2]) (t := 90) ?hr ?_; (case hd => rfl); (case hg => rfl); (case hr => first | (go_simp; done) | (go_simp; rfl)); intro gb172 hg w5 hbox hb; have n0_ := Aside0.mk (below_step (by repeat (first | (with_reducible first | exact HB.out | apply below_alloc | apply pw_below_drewN | apply below_drew1) | exact HB.out)) hb); have n1_ := Aside0.mk (hbox); have n2_ := Aside0.mk ((by rw [hg]; exact (below_size (by repeat (first | (with_reducible first | exact HB.out | apply below_alloc | apply pw_below_drewN | apply below_drew1) | exact HB.out))) : w.heap.size ≤ gb172)); have n3_ := Aside0.mk ((by rw [hg]; exact (below_size (by repeat (first | (with_reducible first | exact HB.out | apply below_alloc | apply pw_below_drewN | apply below_drew1) | exact HB.out))) : w.heap.size ≤ gb172)); clear HB; have HB := n0_; have BK172 := n1_; have GW172 := n2_; have GE172 := n3_; clear n0_ n1_ n2_ n3_; clear hb hbox hg; have hcz6_0 : w5.cell? ⟨gb172, 0, none⟩ = some (.int .i8 a0_0) := (blk_cell BK172.out 0).trans rfl; have hcz6_1 : w5.cell? ⟨gb172, 1, none⟩ = some (.int .i8 a0_1) := (blk_cell BK172.out 1).trans rfl; have hcz6_2 : w5.cell? ⟨gb172, 2, none⟩ = some (.int .i8 a0_2) := (blk_cell BK172.out 2).trans rfl; have hfz6_0 := blk_frozen BK172.out 0; have hfz6_1 := blk_frozen BK172.out 1; have hfz6_2 := blk_frozen BK172.out 2))
    go_ret
    exact ⟨by first | rfl | (simp [errW_none, errW_some] <;> rfl) | (simp [*, errW_none, errW_some] <;> rfl), by repeat (first | (with_reducible first | exact HB.out | apply below_alloc | apply pw_below_drewN | apply below_drew1 | refine below_set ?_ GE172.out) | exact HB.out)⟩

/-! ### impl_seatsCode: function 73 -/
mutual
def impl_seatsCode.l0 : Nat → Int → List (S90) → List (S90) → Int → Int → Option (Int)
  | 0, _, _, _, _, _ => none
  | k + 1, x0, x1, x7, x8, x9 => if x9 < x8 then (if 0 ≤ x9 then (if x9 < (x7.length : Int) then ((impl_isCount.f ((rd_T90 x7 x9).f0.f0) ((rd_T90 x7 x9).f0.f1) ((rd_T90 x7 x9).f1)).bind fun t175 => (if t175 = true then (impl_seatsCode.l0 k x0 x1 x7 x8 (wrap64 (x9 + 1))) else (some 1))) else (none)) else (none)) else (if x0 < 1 then (impl_seatsCode.j1 k x1 true) else (impl_seatsCode.j1 k x1 (decide (x0 > 12))))
def impl_seatsCode.j1 : Nat → List (S90) → Bool → Option (Int)
  | 0, _, _ => none
  | k + 1, x1, x17 => if x17 = true then (some 2) else (if (x1.length : Int) > 6 then (some 3) else (some 0))
end
def impl_seatsCode.f (k : Nat) (a0 : Int) (l1 : List (S90)) : Option (Int) := impl_seatsCode.l0 k a0 l1 l1 (l1.length : Int) 0
theorem impl_seatsCode.mono_l : ∀ k, (∀ y0 y1 y2 y3 y4, LeO (impl_seatsCode.l0 k y0 y1 y2 y3 y4) (impl_seatsCode.l0 (k + 1) y0 y1 y2 y3 y4)) ∧ (∀ y0 y1, LeO (impl_seatsCode.j1 k y0 y1) (impl_seatsCode.j1 (k + 1) y0 y1))
  | 0 => ⟨fun _ _ _ _ _ r h => by simp [impl_seatsCode.l0] at h, fun _ _ r h => by simp [impl_seatsCode.j1] at h⟩
  | k + 1 => by
    obtain ⟨ih0, ih1⟩ := impl_seatsCode.mono_l k
    refine ⟨?_, ?_⟩
    · intro y0 y1 y2 y3 y4
      unfold impl_seatsCode.l0
      repeat' first
      | (with_reducible exact ih0 _ _ _ _ _)
      | (with_reducible exact ih1 _ _)
      | (with_reducible exact LeO.refl _)
      | (with_reducible exact LeO.none _)
      | (with_reducible refine LeO.ite ?_ ?_)
      | (with_reducible refine LeO.bind ?_ (fun _ => ?_))
      | exact ih0 _ _ _ _ _
      | exact ih1 _ _
      | exact LeO.none _
      | refine LeO.ite ?_ ?_
      | refine LeO.bind ?_ (fun _ => ?_)
    · intro y0 y1
      unfold impl_seatsCode.j1
      repeat' first
      | (with_reducible exact ih0 _ _ _ _ _)
      | (with_reducible exact ih1 _ _)
      | (with_reducible exact LeO.refl _)
      | (with_reducible exact LeO.none _)
      | (with_reducible refine LeO.ite ?_ ?_)
      | (with_reducible refine LeO.bind ?_ (fun _ => ?_))
      | exact ih0 _ _ _ _ _
      | exact ih1 _ _
      | exact LeO.none _
      | refine LeO.ite ?_ ?_
      | refine LeO.bind ?_ (fun _ => ?_)
theorem impl_seatsCode.mono : ∀ a0 a1 k, LeO (impl_seatsCode.f k a0 a1) (impl_seatsCode.f (k + 1) a0 a1) := by
  intro a0 a1 k
  obtain ⟨ih0, ih1⟩ := impl_seatsCode.mono_l k
  unfold impl_seatsCode.f
  repeat' first
      | (with_reducible exact ih0 _ _ _ _ _)
      | (with_reducible exact ih1 _ _)
      | (with_reducible exact LeO.refl _)
      | (with_reducible exact LeO.none _)
      | (with_reducible refine LeO.ite ?_ ?_)
      | (with_reducible refine LeO.bind ?_ (fun _ => ?_))
      | exact ih0 _ _ _ _ _
      | exact ih1 _ _
      | exact LeO.none _
      | refine LeO.ite ?_ ?_
      | refine LeO.bind ?_ (fun _ => ?_)
set_option maxHeartbeats 8000000 in
set_option maxRecDepth 100000 in
theorem impl_seatsCode.calls (k : Nat) (a0 : Int) (A1 : Option Addr) (c1 : Nat) (l1 : List (S90)) (r : Int) (w : World) (hr1 : Kd.C k90 w A1 l1.length l1) (hc1 : l1.length ≤ c1) (h : impl_seatsCode.f k a0 l1 = some r) :
    Calls Try.prog 73 #[.int .i64 a0, .slice A1 l1.length c1] w fun e w' => e = .returned (.int .i64 r) ∧ Below w.heap.size w w' := by
  have hu90 := Try.underlying90
  have HR1 := Aside0.mk hr1
  have HC1 := Aside0.mk hc1
  clear hr1 hc1
  have HB := Aside0.mk (Below.refl w.heap.size w)
  have H : (impl_seatsCode.l0 k a0 l1 l1 (l1.length : Int) 0) = some r := h
  clear h
  have H' := Aside0.mk H
  clear H
  go_enter Try.func73, Try.ntmps73
  go_wp2
  go_loopg [9] k (fun kq v9 w' => ∃ (x9_1 : Int), v9 = .int .i64 x9_1 ∧ Aside0 (impl_seatsCode.l0 kq a0 l1 l1 (l1.length : Int) x9_1 = some r) ∧ Aside0 (kq ≤ k) ∧ Aside0 (Below w.heap.size w w'))
  case atStart => exact ⟨(0), (by first | rfl | (simp; done) | (simp [*]; done)), H', ⟨Nat.le_refl _⟩, ⟨by repeat (first | (with_reducible first | exact HB.out | apply below_alloc | apply pw_below_drewN | apply below_drew1) | exact HB.out)⟩⟩
  case round =>
    clear H'
    try clear c1
    try clear p2
    obtain ⟨x9_1, rfl, HA, HK1, HB⟩ := hrel
    cases gk with
    | zero => exact absurd HA.out (by simp [impl_seatsCode.l0])
    | succ k1 =>
      have H := HA.out
      clear HA
      simp only [impl_seatsCode.l0] at H
      by_cases c3 : x9_1 < (l1.length : Int)
      · rw [if_pos c3] at H
        have c3b0 : decide (x9_1 < (l1.length : Int)) = true := decide_eq_true c3
        clear c3
        by_cases c4 : 0 ≤ x9_1
        · rw [if_pos c4] at H
          have c4b0 : decide (0 ≤ x9_1) = true := decide_eq_true c4
          clear c4
          by_cases c5 : x9_1 < (l1.length : Int)
          · rw [if_pos c5] at H
            have c5b0 : decide (x9_1 < (l1.length : Int)) = true := decide_eq_true c5
            clear c5
            replace H := Option.bind_eq_some_iff.mp H
            obtain ⟨t175, A60, H⟩ := H
            replace H : (if t175 = true then (impl_seatsCode.l0 k1 a0 l1 l1 (l1.length : Int) (wrap64 (x9_1 + 1))) else (some 1)) = some r := H
            have A6 := Aside0.mk A60
            clear A60
            by_cases c7 : t175 = true
            · subst c7
              have H1 : (impl_seatsCode.l0 k1 a0 l1 l1 (l1.length : Int) (wrap64 (x9_1 + 1))) = some r := by rw [if_pos rfl] at H; exact H
              clear H
              have H := H1
              clear H1
              have H' := Aside0.mk H
              clear H
              have p173 : 0 ≤ (x9_1 : Int) := of_decide_eq_true (by first | (with_reducible assumption) | assumption)
              have q173 : x9_1 < (l1.length : Int) := of_decide_eq_true (by first | (with_reducible assumption) | assumption)
              obtain ⟨ad173, e173, hx173_0, hx173_1, hx173_2⟩ := at_T90 HR1.out x9_1 p173 q173
              cases e173
              replace hx173_0 := (HB.out.cell (World.block_lt_of_cell? w _ hx173_0)).trans hx173_0
              replace hx173_1 := (HB.out.cell (World.block_lt_of_cell? w _ hx173_1)).trans hx173_1
              replace hx173_2 := (HB.out.cell (World.block_lt_of_cell? w _ hx173_2)).trans hx173_2
              replace p173 := eq_true p173
              replace q173 := eq_true q173
              go_wp2_with (first | ((with_reducible refine gate_dst (N := 6) rfl ?_); refine box_event ?hg (N := 6) ?hd (cs := #[.int .i8 0, .int .i8 0, .int .i8 0]) (t := 90) ?hr ?_; (case hd => rfl); (case hg => rfl); (case hr => first | (go_simp; done) | (go_simp; rfl)); intro gb174 hg w8 hbox hb; have n0_ := Aside0.mk (below_step (by repeat (first | (with_reducible first | exact HB.out | apply below_alloc | apply pw_below_drewN | apply below_drew1) | exact HB.out)) hb); have n1_ := Aside0.mk (hbox); have n2_ := Aside0.mk ((by rw [hg]; exact (below_size (by repeat (first | (with_reducible first | exact HB.out | apply below_alloc | apply pw_below_drewN | apply below_drew1) | exact HB.out))) : w.heap.size ≤ gb174)); have n3_ := Aside0.mk ((by rw [hg]; exact (below_size (by repeat (first | (with_reducible first | exact HB.out | apply below_alloc | apply pw_below_drewN | apply below_drew1) | exact HB.out))) : w.heap.size ≤ gb174)); clear HB; have HB := n0_; have BK174 := n1_; have GW174 := n2_; have GE174 := n3_; clear n0_ n1_ n2_ n3_; clear hb hbox hg; have hcz9_0 : w8.cell? ⟨gb174, 0, none⟩ = some (.int .i8 0) := (blk_cell BK174.out 0).trans rfl; have hcz9_1 : w8.cell? ⟨gb174, 1, none⟩ = some (.int .i8 0) := (blk_cell BK174.out 1).trans rfl; have hcz9_2 : w8.cell? ⟨gb174, 2, none⟩ = some (.int .i8 0) := (blk_cell BK174.out 2).trans rfl; have hfz9_0 := blk_frozen BK174.out 0; have hfz9_1 := blk_frozen BK174.out 1; have hfz9_2 := blk_frozen BK174.out 2) | ((with_reducible refine gate_callee (f := 107) rfl ?_); refine goesL_ (some 14) rfl rfl Try.func107 (by kernel_rfl) rfl #[.agg #[.int .i8 ((rd_T90 l1 x9_1).f0.f0), .int .i8 ((rd_T90 l1 x9_1).f0.f1), .int .i8 ((rd_T90 l1 x9_1).f1)]] rfl (by (try simp only [List.map_toArray, List.map_cons, List.map_nil]); first | done | rfl | (simp only [List.length_drop, List.length_take]; rfl)) ?_; (with_reducible refine (impl_isCount.calls ((rd_T90 l1 x9_1).f0.f0) ((rd_T90 l1 x9_1).f0.f1) ((rd_T90 l1 x9_1).f1) true _ A6.out).mono ?_); rintro e w10 ⟨rfl, hb⟩; refine ⟨_, rfl, ?_⟩; have n0_ := Aside0.mk (blk_below (g := gb174) (o := .cells #[.int .i8 ((rd_T90 l1 x9_1).f0.f0), .int .i8 ((rd_T90 l1 x9_1).f0.f1), .int .i8 ((rd_T90 l1 x9_1).f1)] 90 (0, 0)) (by (with_reducible repeat (first | refine blk_drewN ?_ _ | refine blk_drew ?_ | refine blk_alloc ?_ _)); refine blk_put (cs := #[.int .i8 ((rd_T90 l1 x9_1).f0.f0), .int .i8 ((rd_T90 l1 x9_1).f0.f1), .int .i8 0]) ?_ 2 _ rfl; (with_reducible repeat (first | refine blk_drewN ?_ _ | refine blk_drew ?_ | refine blk_alloc ?_ _)); refine blk_put (cs := #[.int .i8 ((rd_T90 l1 x9_1).f0.f0), .int .i8 0, .int .i8 0]) ?_ 1 _ rfl; (with_reducible repeat (first | refine blk_drewN ?_ _ | refine blk_drew ?_ | refine blk_alloc ?_ _)); refine blk_put (cs := #[.int .i8 0, .int .i8 0, .int .i8 0]) ?_ 0 _ rfl; (with_reducible repeat (first | refine blk_drewN ?_ _ | refine blk_drew ?_ | refine blk_alloc ?_ _)); exact BK174.out) hb); have n1_ := Aside0.mk (below_step (by repeat (first | (with_reducible first | exact HB.out | apply below_alloc | apply pw_below_drewN | apply below_drew1 | refine below_set ?_ GE174.out) | exact HB.out)) hb); clear BK174; clear HB; have BK174 := n0_; have HB := n1_; clear n0_ n1_; (try clear hb); (try clear hb2); (try clear hk); (try clear hi)))
              go_roundg k1
              case measure => have := HK1.out; omega
              case rel => exact ⟨(wrap64 (x9_1 + 1)), (by first | rfl | (simp; done) | (simp [*]; done)), H', ⟨by have := HK1.out; omega⟩, ⟨by repeat (first | (with_reducible first | exact HB.out | apply below_alloc | apply pw_below_drewN | apply below_drew1 | refine below_set ?_ GE174.out) | exact HB.out)⟩⟩
            · replace c7 := Bool.eq_false_iff.mpr c7
              subst c7
              have H1 : (some 1) = some r := by rw [if_neg (show ¬ (false = true) by decide)] at H; exact H
              clear H
              have H := H1
              clear H1
              obtain rfl := Option.some.inj H
              have p173 : 0 ≤ (x9_1 : Int) := of_decide_eq_true (by first | (with_reducible assumption) | assumption)
              have q173 : x9_1 < (l1.length : Int) := of_decide_eq_true (by first | (with_reducible assumption) | assumption)
              obtain ⟨ad173, e173, hx173_0, hx173_1, hx173_2⟩ := at_T90 HR1.out x9_1 p173 q173
              cases e173
              replace hx173_0 := (HB.out.cell (World.block_lt_of_cell? w _ hx173_0)).trans hx173_0
              replace hx173_1 := (HB.out.cell (World.block_lt_of_cell? w _ hx173_1)).trans hx173_1
              replace hx173_2 := (HB.out.cell (World.block_lt_of_cell? w _ hx173_2)).trans hx173_2
              replace p173 := eq_true p173
              replace q173 := eq_true q173
              go_wp2_with (first | ((with_reducible refine gate_dst (N := 6) rfl ?_); refine box_event ?hg (N := 6) ?hd (cs := #[.int .i8 0, .int .i8 0, .int .i8 0]) (t := 90) ?hr ?_; (case hd => rfl); (case hg => rfl); (case hr => first | (go_simp; done) | (go_simp; rfl)); intro gb174 hg w11 hbox hb; have n0_ := Aside0.mk (below_step (by repeat (first | (with_reducible first | exact HB.out | apply below_alloc | apply pw_below_drewN | apply below_drew1) | exact HB.out)) hb); have n1_ := Aside0.mk (hbox); have n2_ := Aside0.mk ((by rw [hg]; exact (below_size (by repeat (first | (with_reducible first | exact HB.out | apply below_alloc | apply pw_below_drewN | apply below_drew1) | exact HB.out))) : w.heap.size ≤ gb174)); have n3_ := Aside0.mk ((by rw [hg]; exact (below_size (by repeat (first | (with_reducible first | exact HB.out | apply below_alloc | apply pw_below_drewN | apply below_drew1) | exact HB.out))) : w.heap.size ≤ gb174)); clear HB; have HB := n0_; have BK174 := n1_; have GW174 := n2_; have GE174 := n3_; clear n0_ n1_ n2_ n3_; clear hb hbox hg; have hcz12_0 : w11.cell? ⟨gb174, 0, none⟩ = some (.int .i8 0) := (blk_cell BK174.out 0).trans rfl; have hcz12_1 : w11.cell? ⟨gb174, 1, none⟩ = some (.int .i8 0) := (blk_cell BK174.out 1).trans rfl; have hcz12_2 : w11.cell? ⟨gb174, 2, none⟩ = some (.int .i8 0) := (blk_cell BK174.out 2).trans rfl; have hfz12_0 := blk_frozen BK174.out 0; have hfz12_1 := blk_frozen BK174.out 1; have hfz12_2 := blk_frozen BK174.out 2) | ((with_reducible refine gate_callee (f := 107) rfl ?_); refine goesL_ (some 14) rfl rfl Try.func107 (by kernel_rfl) rfl #[.agg #[.int .i8 ((rd_T90 l1 x9_1).f0.f0), .int .i8 ((rd_T90 l1 x9_1).f0.f1), .int .i8 ((rd_T90 l1 x9_1).f1)]] rfl (by (try simp only [List.map_toArray, List.map_cons, List.map_nil]); first | done | rfl | (simp only [List.length_drop, List.length_take]; rfl)) ?_; (with_reducible refine (impl_isCount.calls ((rd_T90 l1 x9_1).f0.f0) ((rd_T90 l1 x9_1).f0.f1) ((rd_T90 l1 x9_1).f1) false _ A6.out).mono ?_); rintro e w13 ⟨rfl, hb⟩; refine ⟨_, rfl, ?_⟩; have n0_ := Aside0.mk (blk_below (g := gb174) (o := .cells #[.int .i8 ((rd_T90 l1 x9_1).f0.f0), .int .i8 ((rd_T90 l1 x9_1).f0.f1), .int .i8 ((rd_T90 l1 x9_1).f1)] 90 (0, 0)) (by (with_reducible repeat (first | refine blk_drewN ?_ _ | refine blk_drew ?_ | refine blk_alloc ?_ _)); refine blk_put (cs := #[.int .i8 ((rd_T90 l1 x9_1).f0.f0), .int .i8 ((rd_T90 l1 x9_1).f0.f1), .int .i8 0]) ?_ 2 _ rfl; (with_reducible repeat (first | refine blk_drewN ?_ _ | refine blk_drew ?_ | refine blk_alloc ?_ _)); refine blk_put (cs := #[.int .i8 ((rd_T90 l1 x9_1).f0.f0), .int .i8 0, .int .i8 0]) ?_ 1 _ rfl; (with_reducible repeat (first | refine blk_drewN ?_ _ | refine blk_drew ?_ | refine blk_alloc ?_ _)); refine blk_put (cs := #[.int .i8 0, .int .i8 0, .int .i8 0]) ?_ 0 _ rfl; (with_reducible repeat (first | refine blk_drewN ?_ _ | refine blk_drew ?_ | refine blk_alloc ?_ _)); exact BK174.out) hb); have n1_ := Aside0.mk (below_step (by repeat (first | (with_reducible first | exact HB.out | apply below_alloc | apply pw_below_drewN | apply below_drew1 | refine below_set ?_ GE174.out) | exact HB.out)) hb); clear BK174; clear HB; have BK174 := n0_; have HB := n1_; clear n0_ n1_; (try clear hb); (try clear hb2); (try clear hk); (try clear hi)))
              go_ret
              exact ⟨by first | rfl | (simp [errW_none, errW_some] <;> rfl) | (simp [*, errW_none, errW_some] <;> rfl), by repeat (first | (with_reducible first | exact HB.out | apply below_alloc | apply pw_below_drewN | apply below_drew1 | refine below_set ?_ GE174.out) | exact HB.out)⟩
          · rw [if_neg c5] at H
            exact absurd H (by simp)
        · rw [if_neg c4] at H
          exact absurd H (by simp)
      · rw [if_neg c3] at H
        have c3b0 : decide (x9_1 < (l1.length : Int)) = false := decide_eq_false c3
        clear c3
        have HC14 := Aside0.mk H
        clear H
        go_upto_region 7 with (fail)
        go_cut [17] (fun v17 wc => ∃ (kq : Nat) (x17_13 : Bool), v17 = .bool x17_13 ∧ Aside0 (impl_seatsCode.j1 kq l1 x17_13 = some r) ∧ Aside0 (kq ≤ k1) ∧ Aside0 (Below w.heap.size w wc))
        case first =>
          have H := HC14.out
          clear HC14
          by_cases c15 : a0 < 1
          · rw [if_pos c15] at H
            have c15b0 : decide (a0 < 1) = true := decide_eq_true c15
            clear c15
            (first | rw [c15b0] | (simp only [i64_w, i32_w]; rw [c15b0]) | skip)
            have H' := Aside0.mk H
            clear H
            go_wp2
            go_meet
            case rel => exact ⟨_, (true), (by first | rfl | (simp; done) | (simp [*]; done)), H', ⟨by have := HK1.out; first | omega | exact Nat.le_refl _⟩, ⟨by repeat (first | (with_reducible first | exact HB.out | apply below_alloc | apply pw_below_drewN | apply below_drew1) | exact HB.out)⟩⟩
          · rw [if_neg c15] at H
            have c15b0 : decide (a0 < 1) = false := decide_eq_false c15
            clear c15
            (first | rw [c15b0] | (simp only [i64_w, i32_w]; rw [c15b0]) | skip)
            have H' := Aside0.mk H
            clear H
            go_wp2
            go_meet
            case rel => exact ⟨_, (decide (a0 > 12)), (by first | rfl | (simp; done) | (simp [*]; done)), H', ⟨by have := HK1.out; first | omega | exact Nat.le_refl _⟩, ⟨by repeat (first | (with_reducible first | exact HB.out | apply below_alloc | apply pw_below_drewN | apply below_drew1) | exact HB.out)⟩⟩
        case rest =>
          clear HC14
          try clear c1
          try clear p1
          try clear q1
          try clear hx1
          try clear p2
          try clear c3
          try clear c3b0
          try clear c4
          try clear c4b0
          try clear c5
          try clear c5b0
          try clear p6
          try clear c7
          try clear c10
          try clear c15
          try clear c15b0
          try clear hcz12_0
          try clear hcz12_1
          try clear hcz12_2
          try clear hcz9_0
          try clear hcz9_1
          try clear hcz9_2
          try clear hfz12_0
          try clear hfz12_1
          try clear hfz12_2
          try clear hfz9_0
          try clear hfz9_1
          try clear hfz9_2
          try clear hx173_0
          try clear hx173_1
          try clear hx173_2
          try clear p173
          try clear p2
          try clear q173
          obtain ⟨kq, x17_13, rfl, HA, HJ13, HB⟩ := hcut
          cases kq with
          | zero => exact absurd HA.out (by simp [impl_seatsCode.j1])
          | succ kj13 =>
            have H := HA.out
            clear HA
            simp only [impl_seatsCode.j1] at H
            by_cases c16 : x17_13 = true
            · subst c16
              have H1 : (some 2) = some r := by rw [if_pos rfl] at H; exact H
              clear H
              have H := H1
              clear H1
              obtain rfl := Option.some.inj H
              go_wp2
              go_ret
              exact ⟨by first | rfl | (simp [errW_none, errW_some] <;> rfl) | (simp [*, errW_none, errW_some] <;> rfl), by repeat (first | (with_reducible first | exact HB.out | apply below_alloc | apply pw_below_drewN | apply below_drew1) | exact HB.out)⟩
            · replace c16 := Bool.eq_false_iff.mpr c16
              subst c16
              have H1 : (if (l1.length : Int) > 6 then (some 3) else (some 0)) = some r := by rw [if_neg (show ¬ (false = true) by decide)] at H; exact H
              clear H
              have H := H1
              clear H1
              by_cases c17 : (l1.length : Int) > 6
              · rw [if_pos c17] at H
                have c17b0 : decide (6 < (l1.length : Int)) = true := decide_eq_true c17
                have c17b1 : decide (6 < l1.length) = true := decide_eq_true (by omega)
                clear c17
                obtain rfl := Option.some.inj H
                go_wp2
                go_ret
                exact ⟨by first | rfl | (simp [errW_none, errW_some] <;> rfl) | (simp [*, errW_none, errW_some] <;> rfl), by repeat (first | (with_reducible first | exact HB.out | apply below_alloc | apply pw_below_drewN | apply below_drew1) | exact HB.out)⟩
              · rw [if_neg c17] at H
                have c17b0 : decide (6 < (l1.length : Int)) = false := decide_eq_false c17
                have c17b1 : decide (6 < l1.length) = false := decide_eq_false (by omega)
                clear c17
                obtain rfl := Option.some.inj H
                go_wp2
                go_ret
                exact ⟨by first | rfl | (simp [errW_none, errW_some] <;> rfl) | (simp [*, errW_none, errW_some] <;> rfl), by repeat (first | (with_reducible first | exact HB.out | apply below_alloc | apply pw_below_drewN | apply below_drew1) | exact HB.out)⟩

/-! ### impl_fitCrews: function 77 -/
def impl_fitCrews.l0 : Nat → Int → List (S90) → Int → Int → Option (Bool)
  | 0, _, _, _, _ => none
  | k + 1, x0, x7, x8, x9 => if x9 < x8 then (if 0 ≤ x9 then (if x9 < (x7.length : Int) then (if (wrap64 ((rd_T90 x7 x9).f1)) > x0 then (some false) else (impl_fitCrews.l0 k x0 x7 x8 (wrap64 (x9 + 1)))) else (none)) else (none)) else (some true)
def impl_fitCrews.f (k : Nat) (a0 : Int) (l1 : List (S90)) : Option (Bool) := impl_fitCrews.l0 k a0 l1 (l1.length : Int) 0
theorem impl_fitCrews.mono_l : ∀ k, (∀ y0 y1 y2 y3, LeO (impl_fitCrews.l0 k y0 y1 y2 y3) (impl_fitCrews.l0 (k + 1) y0 y1 y2 y3))
  | 0 => fun _ _ _ _ r h => by simp [impl_fitCrews.l0] at h
  | k + 1 => by
    have ih0 := impl_fitCrews.mono_l k
    · intro y0 y1 y2 y3
      unfold impl_fitCrews.l0
      repeat' first
      | (with_reducible exact ih0 _ _ _ _)
      | (with_reducible exact LeO.refl _)
      | (with_reducible exact LeO.none _)
      | (with_reducible refine LeO.ite ?_ ?_)
      | (with_reducible refine LeO.bind ?_ (fun _ => ?_))
      | exact ih0 _ _ _ _
      | exact LeO.none _
      | refine LeO.ite ?_ ?_
      | refine LeO.bind ?_ (fun _ => ?_)
theorem impl_fitCrews.mono : ∀ a0 a1 k, LeO (impl_fitCrews.f k a0 a1) (impl_fitCrews.f (k + 1) a0 a1) := by
  intro a0 a1 k
  have ih0 := impl_fitCrews.mono_l k
  unfold impl_fitCrews.f
  repeat' first
      | (with_reducible exact ih0 _ _ _ _)
      | (with_reducible exact LeO.refl _)
      | (with_reducible exact LeO.none _)
      | (with_reducible refine LeO.ite ?_ ?_)
      | (with_reducible refine LeO.bind ?_ (fun _ => ?_))
      | exact ih0 _ _ _ _
      | exact LeO.none _
      | refine LeO.ite ?_ ?_
      | refine LeO.bind ?_ (fun _ => ?_)
set_option maxHeartbeats 8000000 in
set_option maxRecDepth 100000 in
theorem impl_fitCrews.calls (k : Nat) (a0 : Int) (A1 : Option Addr) (c1 : Nat) (l1 : List (S90)) (r : Bool) (w : World) (hr1 : Kd.C k90 w A1 l1.length l1) (hc1 : l1.length ≤ c1) (h : impl_fitCrews.f k a0 l1 = some r) :
    Calls Try.prog 77 #[.int .i64 a0, .slice A1 l1.length c1] w fun e w' => e = .returned (.bool r) ∧ Below w.heap.size w w' := by
  have hu90 := Try.underlying90
  have HR1 := Aside0.mk hr1
  have HC1 := Aside0.mk hc1
  clear hr1 hc1
  have HB := Aside0.mk (Below.refl w.heap.size w)
  have H : (impl_fitCrews.l0 k a0 l1 (l1.length : Int) 0) = some r := h
  clear h
  have H' := Aside0.mk H
  clear H
  go_enter Try.func77, Try.ntmps77
  go_wp2
  go_loopg [9] k (fun kq v9 w' => ∃ (x9_1 : Int), v9 = .int .i64 x9_1 ∧ Aside0 (impl_fitCrews.l0 kq a0 l1 (l1.length : Int) x9_1 = some r) ∧ Aside0 (kq ≤ k) ∧ Aside0 (Below w.heap.size w w'))
  case atStart => exact ⟨(0), (by first | rfl | (simp; done) | (simp [*]; done)), H', ⟨Nat.le_refl _⟩, ⟨by repeat (first | (with_reducible first | exact HB.out | apply below_alloc | apply pw_below_drewN | apply below_drew1) | exact HB.out)⟩⟩
  case round =>
    clear H'
    try clear c1
    try clear p2
    obtain ⟨x9_1, rfl, HA, HK1, HB⟩ := hrel
    cases gk with
    | zero => exact absurd HA.out (by simp [impl_fitCrews.l0])
    | succ k1 =>
      have H := HA.out
      clear HA
      simp only [impl_fitCrews.l0] at H
      by_cases c3 : x9_1 < (l1.length : Int)
      · rw [if_pos c3] at H
        have c3b0 : decide (x9_1 < (l1.length : Int)) = true := decide_eq_true c3
        clear c3
        by_cases c4 : 0 ≤ x9_1
        · rw [if_pos c4] at H
          have c4b0 : decide (0 ≤ x9_1) = true := decide_eq_true c4
          clear c4
          by_cases c5 : x9_1 < (l1.length : Int)
          · rw [if_pos c5] at H
            have c5b0 : decide (x9_1 < (l1.length : Int)) = true := decide_eq_true c5
            clear c5
            by_cases c6 : (wrap64 ((rd_T90 l1 x9_1).f1)) > a0
            · rw [if_pos c6] at H
              have c6b0 : decide (a0 < (wrap64 ((rd_T90 l1 x9_1).f1))) = true := decide_eq_true c6
              clear c6
              obtain rfl := Option.some.inj H
              have p176 : 0 ≤ (x9_1 : Int) := of_decide_eq_true (by first | (with_reducible assumption) | assumption)
              have q176 : x9_1 < (l1.length : Int) := of_decide_eq_true (by first | (with_reducible assumption) | assumption)
              obtain ⟨ad176, e176, hx176_0, hx176_1, hx176_2⟩ := at_T90 HR1.out x9_1 p176 q176
              cases e176
              replace hx176_0 := (HB.out.cell (World.block_lt_of_cell? w _ hx176_0)).trans hx176_0
              replace hx176_1 := (HB.out.cell (World.block_lt_of_cell? w _ hx176_1)).trans hx176_1
              replace hx176_2 := (HB.out.cell (World.block_lt_of_cell? w _ hx176_2)).trans hx176_2
              replace p176 := eq_true p176
              replace q176 := eq_true q176
              go_wp2_with (first | ((with_reducible refine gate_dst (N := 6) rfl ?_); refine box_event ?hg (N := 6) ?hd (cs := #[.int .i8 0, .int .i8 0, .int .i8 0]) (t := 90) ?hr ?_; (case hd => rfl); (case hg => rfl); (case hr => first | (go_simp; done) | (go_simp; rfl)); intro gb177 hg w7 hbox hb; have n0_ := Aside0.mk (below_step (by repeat (first | (with_reducible first | exact HB.out | apply below_alloc | apply pw_below_drewN | apply below_drew1) | exact HB.out)) hb); have n1_ := Aside0.mk (hbox); have n2_ := Aside0.mk ((by rw [hg]; exact (below_size (by repeat (first | (with_reducible first | exact HB.out | apply below_alloc | apply pw_below_drewN | apply below_drew1) | exact HB.out))) : w.heap.size ≤ gb177)); have n3_ := Aside0.mk ((by rw [hg]; exact (below_size (by repeat (first | (with_reducible first | exact HB.out | apply below_alloc | apply pw_below_drewN | apply below_drew1) | exact HB.out))) : w.heap.size ≤ gb177)); clear HB; have HB := n0_; have BK177 := n1_; have GW177 := n2_; have GE177 := n3_; clear n0_ n1_ n2_ n3_; clear hb hbox hg; have hcz8_0 : w7.cell? ⟨gb177, 0, none⟩ = some (.int .i8 0) := (blk_cell BK177.out 0).trans rfl; have hcz8_1 : w7.cell? ⟨gb177, 1, none⟩ = some (.int .i8 0) := (blk_cell BK177.out 1).trans rfl; have hcz8_2 : w7.cell? ⟨gb177, 2, none⟩ = some (.int .i8 0) := (blk_cell BK177.out 2).trans rfl; have hfz8_0 := blk_frozen BK177.out 0; have hfz8_1 := blk_frozen BK177.out 1; have hfz8_2 := blk_frozen BK177.out 2))
              go_ret
              exact ⟨by first | rfl | (simp [errW_none, errW_some] <;> rfl) | (simp [*, errW_none, errW_some] <;> rfl), by repeat (first | (with_reducible first | exact HB.out | apply below_alloc | apply pw_below_drewN | apply below_drew1 | refine below_set ?_ GE177.out) | exact HB.out)⟩
            · rw [if_neg c6] at H
              have c6b0 : decide (a0 < (wrap64 ((rd_T90 l1 x9_1).f1))) = false := decide_eq_false c6
              clear c6
              have H' := Aside0.mk H
              clear H
              have p176 : 0 ≤ (x9_1 : Int) := of_decide_eq_true (by first | (with_reducible assumption) | assumption)
              have q176 : x9_1 < (l1.length : Int) := of_decide_eq_true (by first | (with_reducible assumption) | assumption)
              obtain ⟨ad176, e176, hx176_0, hx176_1, hx176_2⟩ := at_T90 HR1.out x9_1 p176 q176
              cases e176
              replace hx176_0 := (HB.out.cell (World.block_lt_of_cell? w _ hx176_0)).trans hx176_0
              replace hx176_1 := (HB.out.cell (World.block_lt_of_cell? w _ hx176_1)).trans hx176_1
              replace hx176_2 := (HB.out.cell (World.block_lt_of_cell? w _ hx176_2)).trans hx176_2
              replace p176 := eq_true p176
              replace q176 := eq_true q176
              go_wp2_with (first | ((with_reducible refine gate_dst (N := 6) rfl ?_); refine box_event ?hg (N := 6) ?hd (cs := #[.int .i8 0, .int .i8 0, .int .i8 0]) (t := 90) ?hr ?_; (case hd => rfl); (case hg => rfl); (case hr => first | (go_simp; done) | (go_simp; rfl)); intro gb177 hg w9 hbox hb; have n0_ := Aside0.mk (below_step (by repeat (first | (with_reducible first | exact HB.out | apply below_alloc | apply pw_below_drewN | apply below_drew1) | exact HB.out)) hb); have n1_ := Aside0.mk (hbox); have n2_ := Aside0.mk ((by rw [hg]; exact (below_size (by repeat (first | (with_reducible first | exact HB.out | apply below_alloc | apply pw_below_drewN | apply below_drew1) | exact HB.out))) : w.heap.size ≤ gb177)); have n3_ := Aside0.mk ((by rw [hg]; exact (below_size (by repeat (first | (with_reducible first | exact HB.out | apply below_alloc | apply pw_below_drewN | apply below_drew1) | exact HB.out))) : w.heap.size ≤ gb177)); clear HB; have HB := n0_; have BK177 := n1_; have GW177 := n2_; have GE177 := n3_; clear n0_ n1_ n2_ n3_; clear hb hbox hg; have hcz10_0 : w9.cell? ⟨gb177, 0, none⟩ = some (.int .i8 0) := (blk_cell BK177.out 0).trans rfl; have hcz10_1 : w9.cell? ⟨gb177, 1, none⟩ = some (.int .i8 0) := (blk_cell BK177.out 1).trans rfl; have hcz10_2 : w9.cell? ⟨gb177, 2, none⟩ = some (.int .i8 0) := (blk_cell BK177.out 2).trans rfl; have hfz10_0 := blk_frozen BK177.out 0; have hfz10_1 := blk_frozen BK177.out 1; have hfz10_2 := blk_frozen BK177.out 2))
              go_roundg k1
              case measure => have := HK1.out; omega
              case rel => exact ⟨(wrap64 (x9_1 + 1)), (by first | rfl | (simp; done) | (simp [*]; done)), H', ⟨by have := HK1.out; omega⟩, ⟨by repeat (first | (with_reducible first | exact HB.out | apply below_alloc | apply pw_below_drewN | apply below_drew1 | refine below_set ?_ GE177.out) | exact HB.out)⟩⟩
          · rw [if_neg c5] at H
            exact absurd H (by simp)
        · rw [if_neg c4] at H
          exact absurd H (by simp)
      · rw [if_neg c3] at H
        have c3b0 : decide (x9_1 < (l1.length : Int)) = false := decide_eq_false c3
        clear c3
        obtain rfl := Option.some.inj H
        go_wp2
        go_ret
        exact ⟨by first | rfl | (simp [errW_none, errW_some] <;> rfl) | (simp [*, errW_none, errW_some] <;> rfl), by repeat (first | (with_reducible first | exact HB.out | apply below_alloc | apply pw_below_drewN | apply below_drew1) | exact HB.out)⟩

/-! ### impl_FirstTrips: function 39: this session's own text -/
theorem cell_of_ints {w : World} {g t : Nat} {k : IntKind} {xs : List Int} (h : w.heap[g]? = some (.cells (xs.map (Value.int k)).toArray t (0, 0))) {i : Int} (hi : i.toNat < xs.length) : w.cell? ⟨g, i.toNat, none⟩ = some (.int k (rd xs i)) := by
  rw [blk_cell h]
  simp [rd, List.getD_eq_getElem?_getD, List.getElem?_eq_getElem hi]
theorem ints_put {w : World} {g t : Nat} {k : IntKind} {xs : List Int} (h : w.heap[g]? = some (.cells (xs.map (Value.int k)).toArray t (0, 0))) (i : Nat) (u : Int) : (w.setCell ⟨g, i, none⟩ (.int k u)).heap[g]? = some (.cells ((xs.set i u).map (Value.int k)).toArray t (0, 0)) :=
  blk_put h i _ (by simp [List.map_set])
theorem drop_rd {α : Type} {xs : List α} {i : Int} (d : α) (h0 : 0 ≤ i) (h : i < (xs.length : Int)) : xs.drop i.toNat = xs.getD i.toNat d :: xs.drop (i + 1).toNat := by
  rw [show (i + 1).toNat = i.toNat + 1 by omega, List.drop_eq_getElem_cons (by omega), List.getD_eq_getElem?_getD, List.getElem?_eq_getElem (by omega)]
  rfl
theorem w64_in {a : Int} (h0 : -9223372036854775808 ≤ a) (h1 : a ≤ 9223372036854775807) : wrap64 a = a := by unfold wrap64; omega
theorem wi64 {a : Int} (h0 : -9223372036854775808 ≤ a) (h1 : a ≤ 9223372036854775807) : IntKind.i64.wrap a = a := by
  have : IntKind.i64.wrap a = if a % 18446744073709551616 ≥ 9223372036854775808 then a % 18446744073709551616 - 18446744073709551616 else a % 18446744073709551616 := by
    simp [IntKind.wrap, IntKind.signed, IntKind.bits]
  rw [this]
  split <;> omega

/-- An empty row that a literal has made. -/
theorem empty_lit {W : World} {base : Nat} {e : TypeId} (h : base ≤ W.heap.size) : Kd.R (Kd.int .i64) e (W.alloc (.cells #[] e)) base (fun _ => True) (.slice (some ⟨W.heap.size, 0, none⟩) 0 0) [] :=
  Kd.R_of_own (enc := Value.int .i64) (h1 := fun _ => rfl) (xs := []) ⟨by simp [encs], .inr ⟨W.heap.size, 0, #[], rfl, h, blk_new W _, Nat.le_refl _, by unfold maxLen; omega, by simp, by simp [encs]⟩⟩ (fun _ _ => trivial)

theorem firstT1_calls (p : Nat) (o x y c : Int) (W : World) (hb : W.cell? ⟨p, 2, none⟩ = some (.int .i8 c)) :
    Calls Try.prog 79 #[.int .i64 o, .pointer (some ⟨p, 0, none⟩)] W fun e w' => e = .returned (.bool (decide (wrap64 c ≤ o))) ∧ Below W.heap.size W w' := by
  have hu := Try.underlying90
  have HB := Aside0.mk (Below.refl W.heap.size W)
  go_enter Try.func79, Try.ntmps79
  go_wp2
  go_ret
  exact ⟨by first | rfl | (simp; done), HB.out⟩
/-- The index of the first one with so much left. -/
def fitIx (c : Int) (ys : List Int) : Nat := ys.findIdx (fun n => decide (wrap64 c ≤ n))
theorem fitIx_cons (c y : Int) (ys : List Int) : fitIx c (y :: ys) = if wrap64 c ≤ y then 0 else fitIx c ys + 1 := by
  unfold fitIx
  rw [List.findIdx_cons]
  by_cases h : wrap64 c ≤ y
  · rw [if_pos h, decide_eq_true h]; rfl
  · rw [if_neg h, decide_eq_false h]; rfl
def fitRes (c : Int) (ys : List Int) : Int := if fitIx c ys < ys.length then (fitIx c ys : Int) else -1
set_option maxHeartbeats 2000000 in
theorem indexFit_calls (p : Nat) (c : Int) (A2 : Option Addr) (c2 : Nat) (ys : List Int) (W : World) (hb : W.cell? ⟨p, 2, none⟩ = some (.int .i8 c))
    (hC2 : Kd.C (Kd.int .i64) W A2 ys.length ys) (hc2 : ys.length ≤ c2) (hl2 : ys.length ≤ 1048576) :
    Calls Try.prog 78 #[.slice A2 ys.length c2, .func (.func 79) #[] #[.pointer (some ⟨p, 0, none⟩)]] W fun e w' => e = .returned (.int .i64 (fitRes c ys)) ∧ Below W.heap.size W w' := by
  have hcl : Aside0 (∀ W1 o, Below W.heap.size W W1 → Calls Try.prog 79 #[.int .i64 o, .pointer (some ⟨p, 0, none⟩)] W1 fun e w' => e = .returned (.bool (decide (wrap64 c ≤ o))) ∧ Below W1.heap.size W1 w') := ⟨fun W1 o h1 => firstT1_calls p o 0 0 c W1 ((h1.cell (World.block_lt_of_cell? _ _ hb)).trans hb)⟩
  have HR0 := Aside0.mk hC2
  have HC0 := Aside0.mk (And.intro hc2 hl2)
  have HB := Aside0.mk (Below.refl W.heap.size W)
  clear hC2 hc2 hl2 hb
  go_enter Try.func78, Try.ntmps78
  go_wp2
  go_loopg [8] ys.length (fun gk v8 w' => ∃ x : Nat, v8 = .int .i64 x ∧ Aside0 (x + gk = ys.length) ∧ Aside0 (fitIx c ys = x + fitIx c (ys.drop x)) ∧ Aside0 (Below W.heap.size W w'))
  case atStart => exact ⟨0, rfl, ⟨by omega⟩, ⟨by simp⟩, HB⟩
  case round =>
    clear HB
    obtain ⟨x, rfl, HK, HA, HB⟩ := hrel
    by_cases c3 : (x : Int) < (ys.length : Int)
    · have p0 : 0 ≤ (x : Int) := by omega
      have hxn : x < ys.length := by omega
      obtain ⟨ad1, e1, hx1_0⟩ := Kd.at_int HR0.out x p0 c3
      cases e1
      replace hx1_0 := (HB.out.cell (World.block_lt_of_cell? W _ hx1_0)).trans hx1_0
      simp only [Int.toNat_natCast] at hx1_0
      have hrd : rd ys x = ys[x] := by rw [rd, Int.toNat_natCast, List.getD_eq_getElem?_getD, List.getElem?_eq_getElem hxn]; rfl
      have hdr : fitIx c (ys.drop x) = if wrap64 c ≤ rd ys x then 0 else fitIx c (ys.drop (x + 1)) + 1 := by
        rw [hrd, List.drop_eq_getElem_cons hxn, fitIx_cons]
      have HX : Aside0 (wrap64 ((x : Int) + 1) = ((x + 1 : Nat) : Int)) := ⟨by have := HC0.out; unfold wrap64; omega⟩
      have c3b : decide ((x : Int) < (ys.length : Int)) = true := decide_eq_true c3
      have c3n : decide (x < ys.length) = true := decide_eq_true hxn
      have p0b : decide (0 ≤ (x : Int)) = true := decide_eq_true p0
      by_cases hb : wrap64 c ≤ rd ys x
      · have HE : Aside0 ((x : Int) = fitRes c ys) := ⟨by rw [if_pos hb] at hdr; rw [fitRes, HA.out, hdr, if_pos (by omega)]; omega⟩
        have hbb := decide_eq_true hb
        clear c3 hdr hrd hb
        go_wp2_with (first | (go_at_call 79; refine (hcl.out _ _ HB.out).mono ?_; rintro e w1 ⟨rfl, hb1⟩; rw [hbb]; have HB1 := Aside0.mk (HB.out.trans (hb1.mono HB.out.size)); clear hb1))
        go_ret
        exact ⟨by rw [← HE.out]; rfl, HB1.out⟩
      · have HE : Aside0 (fitIx c ys = x + 1 + fitIx c (ys.drop (x + 1))) := ⟨by rw [if_neg hb] at hdr; rw [HA.out, hdr]; omega⟩
        have hbb := decide_eq_false hb
        clear c3 hdr hrd hb
        go_wp2_with (first | (go_at_call 79; refine (hcl.out _ _ HB.out).mono ?_; rintro e w1 ⟨rfl, hb1⟩; rw [hbb]; have HB1 := Aside0.mk (HB.out.trans (hb1.mono HB.out.size)); clear hb1))
        go_roundg (gk - 1)
        case measure => have := HK.out; omega
        case rel => exact ⟨x + 1, by first | rfl | rw [HX.out], ⟨by have := HK.out; omega⟩, HE, HB1⟩
    · have c3b : decide ((x : Int) < (ys.length : Int)) = false := decide_eq_false c3
      have c3n : decide (x < ys.length) = false := decide_eq_false (by omega)
      have HE : Aside0 (fitRes c ys = -1) := ⟨by rw [fitRes, HA.out, if_neg (by omega)]⟩
      clear c3
      go_wp2
      go_ret
      exact ⟨by rw [HE.out]; rfl, HB.out⟩
/-- A crew after the other into the first trip that has room. -/
def firstGo (s : Int) : List S90 → List Int → List Int → List Int × List Int
  | [], T, L => (T, L)
  | x :: xs, T, L => if fitIx x.f1 L < L.length then firstGo s xs (T ++ [(fitIx x.f1 L : Int)]) (L.set (fitIx x.f1 L) (wrap64 (L.getD (fitIx x.f1 L) 0 - wrap64 x.f1)))
      else firstGo s xs (T ++ [(L.length : Int)]) ((L ++ [s]).set L.length (wrap64 (s - wrap64 x.f1)))
def impl_FirstTrips.f (a0 : Int) (l1 : List S90) : Option (List Int × Int × Int) := if l1.length ≤ 1048576 then (impl_seatsCode.f (l1.length + 2) a0 l1).bind fun t => if t = 0 then (impl_fitCrews.f (l1.length + 2) a0 l1).bind fun b => if b = true then some ((firstGo a0 l1 [] []).1, ((firstGo a0 l1 [] []).2.length : Int), 0) else some ([], 0, 6) else some ([], 0, t) else none
set_option maxHeartbeats 4000000 in
set_option maxRecDepth 100000 in
theorem impl_FirstTrips.calls (a0 : Int) (A1 : Option Addr) (c1 : Nat) (l1 : List (S90)) (r1 : List Int) (r2 r3 : Int) (w : World) (hr1 : Kd.C k90 w A1 l1.length l1) (hc1 : l1.length ≤ c1) (h : impl_FirstTrips.f a0 l1 = some (r1, r2, r3)) :
    Calls Try.prog 39 #[.int .i64 a0, .slice A1 l1.length c1] w fun e w' => ∃ v0_ : Value, e = .returned (.tuple #[v0_, .int .i64 r2, .int .i64 r3]) ∧ Kd.R (Kd.int .i64) 2 w' w.heap.size (fun _ => True) v0_ r1 ∧ Below w.heap.size w w' := by
  have hu := Try.underlying90
  unfold impl_FirstTrips.f at h
  by_cases hl : l1.length ≤ 1048576
  · rw [if_pos hl] at h
    obtain ⟨t, A3, h⟩ := Option.bind_eq_some_iff.mp h
    have hmf : ∀ (fn : Fn) (first cap : Array Value) (w : World), (Instr.makeFunc fn first cap).run Try.prog w = .ok (.func fn first cap) w := fun _ _ _ _ => rfl
    have hcs : Aside0 (∀ W, Below w.heap.size w W → Calls Try.prog 73 #[.int .i64 a0, .slice A1 l1.length c1] W fun e w' => e = .returned (.int .i64 t) ∧ Below W.heap.size W w') := ⟨fun W hW => impl_seatsCode.calls _ a0 A1 c1 l1 t W (Kd.C_below hr1 hW) hc1 A3⟩
    have HR1 := Aside0.mk hr1
    have HL := Aside0.mk hl
    have HB := Aside0.mk (Below.refl w.heap.size w)
    by_cases ht : t = 0
    · rw [if_pos ht] at h
      subst ht
      obtain ⟨b, A4, h⟩ := Option.bind_eq_some_iff.mp h
      have hcf : Aside0 (∀ W, Below w.heap.size w W → Calls Try.prog 77 #[.int .i64 a0, .slice A1 l1.length c1] W fun e w' => e = .returned (.bool b) ∧ Below W.heap.size W w') := ⟨fun W hW => impl_fitCrews.calls _ a0 A1 c1 l1 b W (Kd.C_below hr1 hW) hc1 A4⟩
      clear hr1 hc1 hl A3 A4
      cases b with
      | false =>
        rw [if_neg (by simp)] at h
        obtain ⟨rfl, e2⟩ := Prod.mk.inj (Option.some.inj h)
        obtain ⟨rfl, rfl⟩ := Prod.mk.inj e2
        clear h e2
        go_enter Try.func39, Try.ntmps39
        go_wp2_with (first | (go_at_call 73; refine (hcs.out _ HB.out).mono ?_; rintro e w1 ⟨rfl, hb1⟩; have HB1 := Aside0.mk (HB.out.trans (hb1.mono HB.out.size)); clear hb1) | (go_at_call 77; refine (hcf.out _ HB1.out).mono ?_; rintro e w2 ⟨rfl, hb2⟩; have HB2 := Aside0.mk (HB1.out.trans (hb2.mono HB1.out.size)); clear hb2))
        exact bodyPost_ret (v := .tuple #[.slice none 0 0, .int .i64 0, .int .i64 6]) (by simp [results, Try.results39, go_sem]) rfl ⟨_, rfl, Kd.R_nil _ _ _ _ _, HB2.out⟩
      | true =>
        rw [if_pos rfl] at h
        obtain ⟨e1, e2⟩ := Prod.mk.inj (Option.some.inj h)
        obtain ⟨e3, rfl⟩ := Prod.mk.inj e2
        have HE := Aside0.mk (And.intro e1 e3)
        clear h e1 e2 e3
        go_enter Try.func39, Try.ntmps39
        go_wp2_with (first | (go_at_call 73; refine (hcs.out _ HB.out).mono ?_; rintro e w1 ⟨rfl, hb1⟩; have HB1 := Aside0.mk (HB.out.trans (hb1.mono HB.out.size)); clear hb1) | (go_at_call 77; refine (hcf.out _ HB1.out).mono ?_; rintro e w2 ⟨rfl, hb2⟩; have HB2 := Aside0.mk (HB1.out.trans (hb2.mono HB1.out.size)); clear hb2))
        go_loopg [8, 9, 27] l1.length (fun gk v8 v9 v27 w' => ∃ (x : Nat) (T L : List Int), v27 = .int .i64 x ∧ Aside0 (x + gk = l1.length) ∧ Aside0 (firstGo a0 (l1.drop x) T L = firstGo a0 l1 [] [] ∧ T.length ≤ x ∧ L.length ≤ x) ∧ Aside0 (Kd.R (Kd.int .i64) 2 w' w.heap.size (fun k_ => some k_ ≠ (v9 : Value).ownBlock) v8 T) ∧ Aside0 (Kd.R (Kd.int .i64) 2 w' w.heap.size (fun k_ => some k_ ≠ (v8 : Value).ownBlock) v9 L) ∧ Aside0 (Below w.heap.size w w'))
        case atStart =>
          have s1 : (w2.alloc (.cells #[] 2)).heap.size = w2.heap.size + 1 := by simp
          have b0 := empty_lit (W := w2) (base := w.heap.size) (e := 2) HB2.out.size
          have b1 := empty_lit (W := w2.alloc (.cells #[] 2)) (base := (w2.alloc (.cells #[] 2)).heap.size) (e := 2) (Nat.le_refl _)
          have b2 := Kd.R_elder' (v := .slice (some ⟨w2.heap.size + 1, 0, none⟩) 0 0) b0 (fun k hk => by
            have : w2.heap.size + 1 = k := Option.some.inj hk
            omega) (below_alloc (Below.refl _ _) (.cells #[] 2))
          have b3 := Kd.R_lower (Kd.R_new' (u := .slice (some ⟨w2.heap.size, 0, none⟩) 0 0) b1 (fun k hk => by
            have : w2.heap.size = k := Option.some.inj hk
            show k < (w2.alloc (.cells #[] 2)).heap.size
            rw [s1]
            omega)) (base' := w.heap.size) (by rw [s1]; have := HB2.out.size; omega)
          rw [s1] at b3
          exact ⟨0, [], [], rfl, ⟨by omega⟩, ⟨rfl, Nat.le_refl _, Nat.le_refl _⟩, ⟨Kd.R_mono b2 (fun _ hk => hk.2)⟩, ⟨Kd.R_mono b3 (fun _ hk => hk.2)⟩, ⟨below_alloc (below_alloc HB2.out _) _⟩⟩
        case round =>
          clear HB
          obtain ⟨x, T, L, rfl, HK, HA, HT, HO, HB⟩ := hrel
          by_cases c3 : (x : Int) < (l1.length : Int)
          · have p0 : 0 ≤ (x : Int) := by omega
            have hxn : x < l1.length := by omega
            obtain ⟨ad1, e1, hx1_0, hx1_1, hx1_2⟩ := at_T90 HR1.out x p0 c3
            cases e1
            replace hx1_0 := (HB.out.cell (World.block_lt_of_cell? w _ hx1_0)).trans hx1_0
            replace hx1_1 := (HB.out.cell (World.block_lt_of_cell? w _ hx1_1)).trans hx1_1
            replace hx1_2 := (HB.out.cell (World.block_lt_of_cell? w _ hx1_2)).trans hx1_2
            have HX : Aside0 (wrap64 ((x : Int) + 1) = ((x + 1 : Nat) : Int)) := ⟨by have := HL.out; unfold wrap64; omega⟩
            have c3b : decide ((x : Int) < (l1.length : Int)) = true := decide_eq_true c3
            have c3n : decide (x < l1.length) = true := decide_eq_true hxn
            have p0b : decide (0 ≤ (x : Int)) = true := decide_eq_true p0
            obtain ⟨cr, hcr⟩ : ∃ cr, cr = rd_T90 l1 x := ⟨_, rfl⟩
            rw [← hcr, Int.toNat_natCast] at hx1_0 hx1_1 hx1_2
            have HD : Aside0 (l1.drop x = cr :: l1.drop (x + 1)) := ⟨by have := drop_rd z90 p0 c3; rw [Int.toNat_natCast, show ((x : Int) + 1).toNat = x + 1 by omega] at this; rw [hcr, this]; rfl⟩
            clear hcr
            have HW0 : Aside0 (Below wr.heap.size wr (wr.alloc (.cells #[.int .i8 cr.f0.f0, .int .i8 cr.f0.f1, .int .i8 cr.f1] 90))) := ⟨below_alloc (Below.refl _ _) _⟩
            have HN0 := Aside0.mk (blk_new wr (.cells #[.int .i8 cr.f0.f0, .int .i8 cr.f0.f1, .int .i8 cr.f1] 90))
            have HS0 : Aside0 (wr.heap.size < (wr.alloc (.cells #[.int .i8 cr.f0.f0, .int .i8 cr.f0.f1, .int .i8 cr.f1] 90)).heap.size ∧ w.heap.size ≤ wr.heap.size) := ⟨by simp, HB.out.size⟩
            obtain ⟨i, hi⟩ : ∃ i, i = fitIx cr.f1 L := ⟨_, rfl⟩
            by_cases hf : i < L.length
            · obtain ⟨g, co, hl9, hg1, hg2, _⟩ := Kd.R_form HO.out (by omega)
              subst hl9
              have HG := Aside0.mk (And.intro hg1 hg2)
              clear hg1 hg2
              have hix : Aside0 (∀ W, Below wr.heap.size wr W → W.heap[wr.heap.size]? = some (.cells #[.int .i8 cr.f0.f0, .int .i8 cr.f0.f1, .int .i8 cr.f1] 90 (0, 0)) → Calls Try.prog 78 #[.slice (some ⟨g, 0, none⟩) L.length co, .func (.func 79) #[] #[.pointer (some ⟨wr.heap.size, 0, none⟩)]] W fun e w' => e = .returned (.int .i64 (i : Int)) ∧ Below W.heap.size W w') := ⟨fun W hW hN => by
                have hr := Kd.R_reads' (Kd.R_below HO.out hW)
                have := indexFit_calls wr.heap.size cr.f1 (some ⟨g, 0, none⟩) co L W (blk_cell hN 2) hr.2.2 hr.2.1 (by have := HA.out.2.2; have := HL.out; omega)
                rw [fitRes, ← hi, if_pos hf] at this
                exact this⟩
              have HD' : Aside0 (firstGo a0 (l1.drop x) T L = firstGo a0 (l1.drop (x + 1)) (T ++ [(i : Int)]) (L.set i (wrap64 (rd L i - wrap64 cr.f1)))) := ⟨by rw [HD.out, firstGo, ← hi, if_pos hf]; rfl⟩
              have c5b : decide ((i : Int) < 0) = false := decide_eq_false (by omega)
              have q0 : decide (0 ≤ (i : Int)) = true := decide_eq_true (by omega)
              have q1 : (i : Int) < (L.length : Int) := by omega
              have q2 : i < L.length := hf
              clear c3 hi hf
              go_wp2_with (first | (go_at_call 78; refine (hix.out _ HW0.out HN0.out).mono ?_; rintro e w3 ⟨rfl, hb3⟩; have HN3 := Aside0.mk ((hb3.block _ HS0.out.1).trans HN0.out); have HW3 := Aside0.mk (HW0.out.trans (hb3.mono HW0.out.size)); have HW3w := Aside0.mk (HB.out.trans (HW3.out.mono HS0.out.2)); have hbx := blk_cell HN3.out 2; have HO3 := Aside0.mk (Kd.R_below HO.out HW3.out); have HT3 := Aside0.mk (Kd.R_below HT.out HW3.out); obtain ⟨hsx, hfz⟩ := Kd.R_celln 0 HO3.out (i : Int) (by omega) q1; simp only [Int.toNat_natCast] at hsx hfz; replace hsx : w3.cell? ⟨g, i, none⟩ = some (.int .i64 (rd L i)) := hsx; clear hb3))
              go_region
              have HT5 := Aside0.mk (Kd.R_drew (Kd.R_mono (Kd.R_far (p := ⟨g, i, none⟩) (Kd.R_mono HT3.out (fun k_ hk => (⟨hk, fun e_ => hk (by rw [e_]; rfl)⟩ : _ ∧ k_ ≠ g))) (fun _ hk => hk.2) (.int .i64 (wrap64 (rd L i - wrap64 cr.f1)))) (fun _ hk => hk.1)))
              have HO5 := Aside0.mk (Kd.R_drew (Kd.R_putn HO3.out (i : Int) (wrap64 (rd L i - wrap64 cr.f1))))
              have HW5 : Aside0 (Below w.heap.size w ((w3.setCell ⟨g, i, none⟩ (.int .i64 (wrap64 (rd L i - wrap64 cr.f1)))).drew)) := ⟨below_drew (below_set HW3w.out HG.out.1)⟩
              simp only [Int.toNat_natCast] at HO5
              obtain ⟨w5, hw5⟩ : ∃ w5, w5 = (w3.setCell ⟨g, i, none⟩ (.int .i64 (wrap64 (rd L i - wrap64 cr.f1)))).drew := ⟨_, rfl⟩
              rw [← hw5] at HT5 HO5 HW5
              try simp only [Int.toNat_natCast]
              rw [← hw5]
              clear hw5
              go_wp2_with (first | ((with_reducible refine gate_builtin (b := .append) (xs := #[.tmp 51, .tmp 53]) rfl ?_); at_builtin; refine Kd.R_append (Kd.int .i64) (w0 := w5) w.heap.size rfl (.tmp 51) (.tmp 53) 30 2 (.int .i64 0) 8 rfl Try.underlying30 info2 rfl (by decide) (by omega) u8 T (i : Int) [.int .i64 (i : Int)] (fun k_ => some k_ ≠ (.slice (some ⟨g, 0, none⟩) L.length co : Value).ownBlock) (fun _ => False) rfl rfl ?aP (fun _ hk => hk.elim) ?aF ?aO ?aB ?aS ?aL ?_; (case aP => exact rfl); (case aB => exact Below.refl _ _); (case aF => exact (fun k_ hk => Kd.fresh' (Kd.R_lt HO5.out) k_ hk)); (case aO => exact HT5.out); (case aS => exact HW5.out.size); (case aL => have := HA.out.2.1; have := HL.out; omega); intro v6 w6 ho hb6 hg6 hat6; have HO6 := Aside0.mk (Kd.R_mono (Kd.R_after (ok := (fun _ => True)) (Kd.R_mono HO5.out (fun _ hk => ⟨trivial, hk⟩)) hg6 hat6) (fun _ hk => hk.2)); have HT6 := Aside0.mk ho; have HW6 := Aside0.mk (HW5.out.trans hb6); clear ho hb6 hg6 hat6))
              go_roundg (gk - 1)
              case measure => have := HK.out; omega
              case rel => exact ⟨x + 1, T ++ [(i : Int)], _, by first | rfl | rw [HX.out], ⟨by have := HK.out; omega⟩, ⟨by rw [← HD'.out]; exact HA.out.1, by simp; exact HA.out.2.1, by rw [List.length_set]; have := HA.out.2.2; omega⟩, ⟨HT6.out⟩, ⟨Kd.R_mono HO6.out (fun _ hk => hk)⟩, HW6⟩
            · obtain ⟨Ao, co, hl9, _⟩ := Kd.R_reads HO.out
              subst hl9
              have hix : Aside0 (∀ W, Below wr.heap.size wr W → W.heap[wr.heap.size]? = some (.cells #[.int .i8 cr.f0.f0, .int .i8 cr.f0.f1, .int .i8 cr.f1] 90 (0, 0)) → Calls Try.prog 78 #[.slice Ao L.length co, .func (.func 79) #[] #[.pointer (some ⟨wr.heap.size, 0, none⟩)]] W fun e w' => e = .returned (.int .i64 (-1)) ∧ Below W.heap.size W w') := ⟨fun W hW hN => by
                have hr := Kd.R_reads' (Kd.R_below HO.out hW)
                have := indexFit_calls wr.heap.size cr.f1 Ao co L W (blk_cell hN 2) hr.2.2 hr.2.1 (by have := HA.out.2.2; have := HL.out; omega)
                rw [fitRes, ← hi, if_neg hf] at this
                exact this⟩
              obtain ⟨M, hM⟩ : ∃ M, M = L ++ [a0] := ⟨_, rfl⟩
              have hrM : rd M (L.length : Int) = a0 := by rw [hM, rd, Int.toNat_natCast, List.getD_eq_getElem?_getD]; simp
              have HD' : Aside0 (firstGo a0 (l1.drop x) T L = firstGo a0 (l1.drop (x + 1)) (T ++ [(L.length : Int)]) (M.set L.length (wrap64 (rd M L.length - wrap64 cr.f1)))) := ⟨by rw [hrM, HD.out, firstGo, ← hi, if_neg hf, hM]⟩
              have HLM : Aside0 (M.length = L.length + 1) := ⟨by rw [hM, List.length_append]; rfl⟩
              have HM := Aside0.mk hM
              have q0 : decide (0 ≤ (L.length : Int)) = true := decide_eq_true (by omega)
              have q1 : (L.length : Int) < (M.length : Int) := by have := HLM.out; omega
              have q2 : L.length < M.length := by have := HLM.out; omega
              clear c3 hi hf hM hrM
              go_wp2_with (first | (go_at_call 78; refine (hix.out _ HW0.out HN0.out).mono ?_; rintro e w3 ⟨rfl, hb3⟩; have HN3 := Aside0.mk ((hb3.block _ HS0.out.1).trans HN0.out); have HW3 := Aside0.mk (HW0.out.trans (hb3.mono HW0.out.size)); have HO3 := Aside0.mk (Kd.R_below HO.out HW3.out); have HT3 := Aside0.mk (Kd.R_below HT.out HW3.out); have HZ3 := Aside0.mk (Nat.lt_of_lt_of_le HS0.out.1 hb3.size); clear hb3) | ((with_reducible refine gate_builtin (b := .append) (xs := #[.tmp 38, .tmp 40]) rfl ?_); at_builtin; refine Kd.R_append (Kd.int .i64) (w0 := w3) w.heap.size rfl (.tmp 38) (.tmp 40) 30 2 (.int .i64 0) 8 rfl Try.underlying30 info2 rfl (by decide) (by omega) (.slice Ao L.length co) L a0 [.int .i64 a0] (fun k_ => some k_ ≠ (u8 : Value).ownBlock) (fun _ => False) rfl rfl ?aP (fun _ hk => hk.elim) ?aF ?aO ?aB ?aS ?aL ?_; (case aP => exact rfl); (case aB => exact Below.refl _ _); (case aF => exact (fun k_ hk => Kd.fresh' (Kd.R_lt HT3.out) k_ hk)); (case aO => exact HO3.out); (case aS => exact Nat.le_trans HS0.out.2 (Nat.le_of_lt HZ3.out)); (case aL => have := HA.out.2.2; have := HL.out; omega); intro v4 w4 ho hb4 hg4 hat4; rw [← HM.out] at ho; have HT4 := Aside0.mk (Kd.R_after (ok := (fun _ => True)) (Kd.R_mono HT3.out (fun _ hk => ⟨trivial, hk⟩)) hg4 hat4); have HN4 := Aside0.mk ((hg4.block _ HZ3.out (Kd.fresh' (Kd.R_lt HO.out) _ (Nat.le_refl _))).trans HN3.out); obtain ⟨g, cap, hl4, hg1, hg2, _⟩ := Kd.R_form ho (by omega); subst hl4; have HG := Aside0.mk (And.intro hg1 hg2); have HO4 := Aside0.mk ho; have HW4 := Aside0.mk (((HB.out.trans (HW3.out.mono HS0.out.2))).trans hb4); clear ho hb4 hg4 hat4 hg1 hg2; have hbx := blk_cell HN4.out 2; obtain ⟨hsx, hfz⟩ := Kd.R_celln 0 HO4.out (L.length : Int) (by omega) q1; simp only [Int.toNat_natCast] at hsx hfz; replace hsx : w4.cell? ⟨g, L.length, none⟩ = some (.int .i64 (rd M L.length)) := hsx))
              go_region
              have HT5 := Aside0.mk (Kd.R_drew (Kd.R_mono (Kd.R_far (p := ⟨g, L.length, none⟩) (Kd.R_mono HT4.out (fun k_ hk => (⟨hk, fun e_ => hk.2 (by rw [e_]; rfl)⟩ : _ ∧ k_ ≠ g))) (fun _ hk => hk.2) (.int .i64 (wrap64 (rd M L.length - wrap64 cr.f1)))) (fun _ hk => hk.1.2)))
              have HO5 := Aside0.mk (Kd.R_drew (Kd.R_putn HO4.out (L.length : Int) (wrap64 (rd M L.length - wrap64 cr.f1))))
              have HW5 : Aside0 (Below w.heap.size w ((w4.setCell ⟨g, L.length, none⟩ (.int .i64 (wrap64 (rd M L.length - wrap64 cr.f1)))).drew)) := ⟨below_drew (below_set HW4.out HG.out.1)⟩
              simp only [Int.toNat_natCast] at HO5
              obtain ⟨w5, hw5⟩ : ∃ w5, w5 = (w4.setCell ⟨g, L.length, none⟩ (.int .i64 (wrap64 (rd M L.length - wrap64 cr.f1)))).drew := ⟨_, rfl⟩
              rw [← hw5] at HT5 HO5 HW5
              try simp only [Int.toNat_natCast]
              rw [← hw5]
              clear hw5
              go_wp2_with (first | ((with_reducible refine gate_builtin (b := .append) (xs := #[.tmp 51, .tmp 53]) rfl ?_); at_builtin; refine Kd.R_append (Kd.int .i64) (w0 := w5) w.heap.size rfl (.tmp 51) (.tmp 53) 30 2 (.int .i64 0) 8 rfl Try.underlying30 info2 rfl (by decide) (by omega) u8 T (L.length : Int) [.int .i64 (L.length : Int)] (fun k_ => some k_ ≠ (.slice (some ⟨g, 0, none⟩) M.length cap : Value).ownBlock) (fun _ => False) rfl rfl ?aP (fun _ hk => hk.elim) ?aF ?aO ?aB ?aS ?aL ?_; (case aP => exact rfl); (case aB => exact Below.refl _ _); (case aF => exact (fun k_ hk => Kd.fresh' (Kd.R_lt HO5.out) k_ hk)); (case aO => exact HT5.out); (case aS => exact HW5.out.size); (case aL => have := HA.out.2.1; have := HL.out; omega); intro v6 w6 ho hb6 hg6 hat6; have HO6 := Aside0.mk (Kd.R_mono (Kd.R_after (ok := (fun _ => True)) (Kd.R_mono HO5.out (fun _ hk => ⟨trivial, hk⟩)) hg6 hat6) (fun _ hk => hk.2)); have HT6 := Aside0.mk ho; have HW6 := Aside0.mk (HW5.out.trans hb6); clear ho hb6 hg6 hat6))
              go_roundg (gk - 1)
              case measure => have := HK.out; omega
              case rel => exact ⟨x + 1, T ++ [(L.length : Int)], _, by first | rfl | rw [HX.out], ⟨by have := HK.out; omega⟩, ⟨by rw [← HD'.out]; exact HA.out.1, by simp; exact HA.out.2.1, by rw [List.length_set]; have := HA.out.2.2; have := HLM.out; omega⟩, ⟨HT6.out⟩, ⟨Kd.R_mono HO6.out (fun _ hk => hk)⟩, HW6⟩
          · have c3b : decide ((x : Int) < (l1.length : Int)) = false := decide_eq_false c3
            have c3n : decide (x < l1.length) = false := decide_eq_false (by omega)
            have HZ : Aside0 (T = r1 ∧ (L.length : Int) = r2) := ⟨by
              have := HA.out.1
              rw [List.drop_eq_nil_of_le (show l1.length ≤ x by omega), firstGo] at this
              rw [← HE.out.1, ← HE.out.2, ← this]
              exact ⟨rfl, rfl⟩⟩
            obtain ⟨Ao, co, hl9, _⟩ := Kd.R_reads HO.out
            subst hl9
            clear c3
            go_wp2
            exact bodyPost_ret (v := .tuple #[u8, .int .i64 (L.length : Int), .int .i64 0]) (by simp [results, Try.results39, go_sem]) rfl ⟨_, by rw [← HZ.out.2], by rw [← HZ.out.1]; exact Kd.R_mono HT.out (fun _ _ => trivial), HB.out⟩
    · rw [if_neg ht] at h
      clear hr1 hc1 hl A3
      obtain ⟨rfl, e2⟩ := Prod.mk.inj (Option.some.inj h)
      obtain ⟨rfl, rfl⟩ := Prod.mk.inj e2
      clear h e2
      have htb : (t != 0) = true := bne_iff_ne.mpr ht
      go_enter Try.func39, Try.ntmps39
      go_wp2_with (first | (go_at_call 73; refine (hcs.out _ HB.out).mono ?_; rintro e w1 ⟨rfl, hb1⟩; have HB1 := Aside0.mk (HB.out.trans (hb1.mono HB.out.size)); clear hb1))
      exact bodyPost_ret (v := .tuple #[.slice none 0 0, .int .i64 0, .int .i64 t]) (by simp [results, Try.results39, go_sem]) rfl ⟨_, rfl, Kd.R_nil _ _ _ _ _, HB1.out⟩
  · rw [if_neg hl] at h; cases h

end Go.Proofs.Ytpimdgkofgendaa.PFnExactFirstTrips
