/- Printed by this session's plus.py out of the translation, some functions' texts being this session's own. -/
import Derived.Test.YtjcdgimldhodiaaPFnExactLeastMovesx0
import Derived.Test.YtjcdgimldhodiaaPFnExactLeastMovesx5
import Derived.Test.YtjcdgimldhodiaaPFnExactLeastMovesx6
import Derived.Test.YtjcdgimldhodiaaPFnExactLeastMovesx7
namespace Go.Proofs.Ytjcdgimldhodiaa.PFnExactLeastMoves
open Go.RowKit Go.Proofs.YtjcdgimldhodiaaW.PrintWords Go.Proofs.YtjcdgimldhodiaaW.PrintLast Go.Proofs.YtjcdgimldhodiaaW.PrintMore
attribute [local go_sem] max2_int min2_int max_two min_two max_three min_three max_four min_four   -- for this text's walks alone
set_option linter.unusedVariables false
set_option linter.unusedSimpArgs false

/-! ### impl_inOrder: function 81 -/
def impl_inOrder.l0 : Nat → List (S73) → List (S73) → List Int → Int → Int → Option ((List (S73)))
  | 0, _, _, _, _, _ => none
  | k + 1, x0, x5, x9, x10, x11 => if x11 < x10 then (if 0 ≤ x11 then (if x11 < (x9.length : Int) then (if 0 ≤ (rd x9 x11) then (if (rd x9 x11) < (x0.length : Int) then (if x5.length < 46912496118442 then (impl_inOrder.l0 k x0 (x5 ++ [(⟨(rd_T73 x0 (rd x9 x11)).f0, (rd_T73 x0 (rd x9 x11)).f1, (rd_T73 x0 (rd x9 x11)).f2⟩ : S73)]) x9 x10 (wrap64 (x11 + 1))) else (none)) else (none)) else (none)) else (none)) else (none)) else (some x5)
def impl_inOrder.f (k : Nat) (l0 : List (S73)) (l1 : List Int) : Option ((List (S73))) := impl_inOrder.l0 k l0 (([] : List (S73))) l1 (l1.length : Int) 0
theorem impl_inOrder.mono_l : ∀ k, (∀ y0 y1 y2 y3 y4, LeO (impl_inOrder.l0 k y0 y1 y2 y3 y4) (impl_inOrder.l0 (k + 1) y0 y1 y2 y3 y4))
  | 0 => fun _ _ _ _ _ r h => by simp [impl_inOrder.l0] at h
  | k + 1 => by
    have ih0 := impl_inOrder.mono_l k
    · intro y0 y1 y2 y3 y4
      unfold impl_inOrder.l0
      repeat' first
      | (with_reducible exact ih0 _ _ _ _ _)
      | (with_reducible exact LeO.refl _)
      | (with_reducible exact LeO.none _)
      | (with_reducible refine LeO.ite ?_ ?_)
      | (with_reducible refine LeO.bind ?_ (fun _ => ?_))
      | exact ih0 _ _ _ _ _
      | exact LeO.none _
      | refine LeO.ite ?_ ?_
      | refine LeO.bind ?_ (fun _ => ?_)
theorem impl_inOrder.mono : ∀ a0 a1 k, LeO (impl_inOrder.f k a0 a1) (impl_inOrder.f (k + 1) a0 a1) := by
  intro a0 a1 k
  have ih0 := impl_inOrder.mono_l k
  unfold impl_inOrder.f
  repeat' first
      | (with_reducible exact ih0 _ _ _ _ _)
      | (with_reducible exact LeO.refl _)
      | (with_reducible exact LeO.none _)
      | (with_reducible refine LeO.ite ?_ ?_)
      | (with_reducible refine LeO.bind ?_ (fun _ => ?_))
      | exact ih0 _ _ _ _ _
      | exact LeO.none _
      | refine LeO.ite ?_ ?_
      | refine LeO.bind ?_ (fun _ => ?_)
set_option maxHeartbeats 8000000 in
set_option maxRecDepth 100000 in
theorem impl_inOrder.calls (k : Nat) (A0 : Option Addr) (c0 : Nat) (l0 : List (S73)) (A1 : Option Addr) (c1 : Nat) (l1 : List Int) (r : List (S73)) (w : World) (hr0 : Kd.C k73 w A0 l0.length l0) (hc0 : l0.length ≤ c0) (hr1 : Kd.C (Kd.int .i64) w A1 l1.length l1) (hc1 : l1.length ≤ c1) (h : impl_inOrder.f k l0 l1 = some r) :
    Calls Try.prog 81 #[.slice A0 l0.length c0, .slice A1 l1.length c1] w fun e w' => ∃ v0_ : Value, e = .returned (v0_) ∧ Kd.R k73 73 w' w.heap.size (fun _ => True) v0_ r ∧ Below w.heap.size w w' := by
  have hu73 := Try.underlying73
  have HR0 := Aside0.mk hr0
  have HC0 := Aside0.mk hc0
  clear hr0 hc0
  have HR1 := Aside0.mk hr1
  have HC1 := Aside0.mk hc1
  clear hr1 hc1
  have HB := Aside0.mk (Below.refl w.heap.size w)
  have H : (impl_inOrder.l0 k l0 (([] : List (S73))) l1 (l1.length : Int) 0) = some r := h
  clear h
  obtain ⟨y237, hy237⟩ : ∃ y_ : List (S73), y_ = (([] : List (S73))) := ⟨_, rfl⟩
  replace H : (impl_inOrder.l0 k l0 y237 l1 (l1.length : Int) 0) = some r := by first | (rw [hy237]; with_reducible exact H) | (have H2_ := (Option.bind_some _ _).symm.trans H; rw [hy237]; with_reducible exact H2_) | (have H2_ := (Option.bind_some _ _).symm.trans H; with_reducible exact H2_) | with_reducible exact H | (rw [hy237]; exact H) | exact H
  have Ny237 := Aside0.mk hy237
  clear hy237
  have H' := Aside0.mk H
  clear H
  go_enter Try.func81, Try.ntmps81
  go_wp2_with (first | ((with_reducible refine gate_dst (N := 8) rfl ?_); refine Kd.R_lit k73 _ 73 ?hg (N := 8) ?hd (xs := ([] : List (S73))) (inner := []) (ok := fun _ => True) (okp := fun _ => True) ?hr ?hp (fun _ hk => hk) trivial (Below.refl _ _) (Nat.le_refl _) (by simp) ?_; (case hd => rfl); (case hg => rfl); (case hr => first | (go_simp; done) | (go_simp; rfl)); (case hp => exact (Reps.none _ _)); intro v238 w3 ho4 hb hg_ hnew_; clear hg_ hnew_; (first | rw [← Ny237.out] at ho4 | (simp only [Int.reduceToNat] at ho4; rw [← Ny237.out] at ho4)); have n0_ := Aside0.mk (Kd.R_lower ho4 (below_size (by repeat (first | (with_reducible first | exact HB.out | apply below_alloc | apply pw_below_drewN | apply below_drew1) | exact HB.out)))); have n1_ := Aside0.mk (below_step (by repeat (first | (with_reducible first | exact HB.out | apply below_alloc | apply pw_below_drewN | apply below_drew1) | exact HB.out)) hb); clear HB; have HO239 := n0_; have HB := n1_; clear n0_ n1_; clear hb ho4))
  go_loopg [5, 11] k (fun kq v5 v11 w' => ∃ (x5_1 : List (S73)) (x11_1 : Int), v11 = .int .i64 x11_1 ∧ Aside0 (impl_inOrder.l0 kq l0 x5_1 l1 (l1.length : Int) x11_1 = some r) ∧ Aside0 (kq ≤ k) ∧ Aside0 (Kd.R k73 73 w' w.heap.size (fun _ => True) v5 x5_1) ∧ Aside0 (Below w.heap.size w w'))
  case atStart => exact ⟨(y237), (0), (by first | rfl | (simp; done) | (simp [*]; done)), H', ⟨Nat.le_refl _⟩, ⟨by (with_reducible repeat (first | apply Kd.R_alloc | apply Kd.R_drewN | apply Kd.R_drew)); exact HO239.out⟩, ⟨by repeat (first | (with_reducible first | exact HB.out | apply below_alloc | apply pw_below_drewN | apply below_drew1) | exact HB.out)⟩⟩
  case round =>
    clear H'
    try clear c1
    try clear p2
    obtain ⟨x5_1, x11_1, rfl, HA, HK1, HO_5, HB⟩ := hrel
    cases gk with
    | zero => exact absurd HA.out (by simp [impl_inOrder.l0])
    | succ k1 =>
      have H := HA.out
      clear HA
      simp only [impl_inOrder.l0] at H
      by_cases c5 : x11_1 < (l1.length : Int)
      · rw [if_pos c5] at H
        have c5b0 : decide (x11_1 < (l1.length : Int)) = true := decide_eq_true c5
        clear c5
        by_cases c6 : 0 ≤ x11_1
        · rw [if_pos c6] at H
          have c6b0 : decide (0 ≤ x11_1) = true := decide_eq_true c6
          clear c6
          by_cases c7 : x11_1 < (l1.length : Int)
          · rw [if_pos c7] at H
            have c7b0 : decide (x11_1 < (l1.length : Int)) = true := decide_eq_true c7
            clear c7
            by_cases c8 : 0 ≤ (rd l1 x11_1)
            · rw [if_pos c8] at H
              have c8b0 : decide (0 ≤ (rd l1 x11_1)) = true := decide_eq_true c8
              clear c8
              by_cases c9 : (rd l1 x11_1) < (l0.length : Int)
              · rw [if_pos c9] at H
                have c9b0 : decide ((rd l1 x11_1) < (l0.length : Int)) = true := decide_eq_true c9
                clear c9
                by_cases c10 : x5_1.length < 46912496118442
                · rw [if_pos c10] at H
                  have LMc10 := Aside0.mk c10
                  clear c10
                  obtain ⟨y242, hy242⟩ : ∃ y_ : List (S73), y_ = (x5_1 ++ [(⟨(rd_T73 l0 (rd l1 x11_1)).f0, (rd_T73 l0 (rd l1 x11_1)).f1, (rd_T73 l0 (rd l1 x11_1)).f2⟩ : S73)]) := ⟨_, rfl⟩
                  replace H : (impl_inOrder.l0 k1 l0 y242 l1 (l1.length : Int) (wrap64 (x11_1 + 1))) = some r := by first | (rw [hy242]; with_reducible exact H) | (have H2_ := (Option.bind_some _ _).symm.trans H; rw [hy242]; with_reducible exact H2_) | (have H2_ := (Option.bind_some _ _).symm.trans H; with_reducible exact H2_) | with_reducible exact H | (rw [hy242]; exact H) | exact H
                  have Ny242 := Aside0.mk hy242
                  clear hy242
                  have H' := Aside0.mk H
                  clear H
                  have p240 : 0 ≤ (x11_1 : Int) := of_decide_eq_true (by first | (with_reducible assumption) | assumption)
                  have q240 : x11_1 < (l1.length : Int) := of_decide_eq_true (by first | (with_reducible assumption) | assumption)
                  obtain ⟨ad240, e240, hx240_0⟩ := Kd.at_int HR1.out x11_1 p240 q240
                  cases e240
                  replace hx240_0 := (HB.out.cell (World.block_lt_of_cell? w _ hx240_0)).trans hx240_0
                  replace p240 := eq_true p240
                  replace q240 := eq_true q240
                  have p241 : 0 ≤ ((rd l1 x11_1) : Int) := of_decide_eq_true (by first | (with_reducible assumption) | assumption)
                  have q241 : (rd l1 x11_1) < (l0.length : Int) := of_decide_eq_true (by first | (with_reducible assumption) | assumption)
                  obtain ⟨ad241, e241, hx241_0, hx241_1, hx241_2⟩ := at_T73 HR0.out (rd l1 x11_1) p241 q241
                  cases e241
                  replace hx241_0 := (HB.out.cell (World.block_lt_of_cell? w _ hx241_0)).trans hx241_0
                  replace hx241_1 := (HB.out.cell (World.block_lt_of_cell? w _ hx241_1)).trans hx241_1
                  replace hx241_2 := (HB.out.cell (World.block_lt_of_cell? w _ hx241_2)).trans hx241_2
                  replace p241 := eq_true p241
                  replace q241 := eq_true q241
                  go_wp2_with (first | ((with_reducible refine gate_builtin (b := .append) (xs := #[.tmp 15, .tmp 20]) rfl ?_); at_builtin; refine Kd.R_append k73 (w0 := w) w.heap.size rfl (.tmp 15) (.tmp 20) 38 73 (.agg #[(.int .i8 0), (.int .i8 0), (.int .i8 0)]) 3 rfl Try.underlying38 info73 rfl (by decide) (by omega) u5 x5_1 (⟨(rd_T73 l0 (rd l1 x11_1)).f0, (rd_T73 l0 (rd l1 x11_1)).f1, (rd_T73 l0 (rd l1 x11_1)).f2⟩ : S73) [.int .i8 ((rd_T73 l0 (rd l1 x11_1)).f0), .int .i8 ((rd_T73 l0 (rd l1 x11_1)).f1), .int .i8 ((rd_T73 l0 (rd l1 x11_1)).f2)] (fun _ => True) (fun _ => False) rfl rfl ?aP (fun _ hk => hk.elim) ?aF ?aO ?aB ?aS ?aL ?_; (case aP => exact k73_mkM _ _ _ (⟨(rd_T73 l0 (rd l1 x11_1)).f0, (rd_T73 l0 (rd l1 x11_1)).f1, (rd_T73 l0 (rd l1 x11_1)).f2⟩ : S73)); (case aB => exact (by repeat (first | (with_reducible first | exact HB.out | apply below_alloc | apply pw_below_drewN | apply below_drew1) | exact HB.out))); (case aF => exact (fun _ _ => trivial)); (case aO => exact (by (with_reducible repeat (first | apply Kd.R_alloc | apply Kd.R_drewN | apply Kd.R_drew)); exact HO_5.out)); (case aS => exact (below_size (by repeat (first | (with_reducible first | exact HB.out | apply below_alloc | apply pw_below_drewN | apply below_drew1) | exact HB.out)))); (case aL => have := LMc10.out; omega); intro v243 w11 ho hb hg hat; rw [← Ny242.out] at ho; have n0_ := Aside0.mk (hb); have n1_ := Aside0.mk (ho); clear HB; clear HO_5; have HB := n0_; have HO244 := n1_; clear n0_ n1_; clear ho hb hg hat))
                  go_roundg k1
                  case measure => have := HK1.out; omega
                  case rel => exact ⟨(y242), (wrap64 (x11_1 + 1)), (by first | rfl | (simp; done) | (simp [*]; done)), H', ⟨by have := HK1.out; omega⟩, ⟨by (with_reducible repeat (first | apply Kd.R_alloc | apply Kd.R_drewN | apply Kd.R_drew)); exact HO244.out⟩, ⟨by repeat (first | (with_reducible first | exact HB.out | apply below_alloc | apply pw_below_drewN | apply below_drew1) | exact HB.out)⟩⟩
                · rw [if_neg c10] at H
                  exact absurd H (by simp)
              · rw [if_neg c9] at H
                exact absurd H (by simp)
            · rw [if_neg c8] at H
              exact absurd H (by simp)
          · rw [if_neg c7] at H
            exact absurd H (by simp)
        · rw [if_neg c6] at H
          exact absurd H (by simp)
      · rw [if_neg c5] at H
        have c5b0 : decide (x11_1 < (l1.length : Int)) = false := decide_eq_false c5
        clear c5
        obtain rfl := Option.some.inj H
        go_wp2
        go_ret
        exact ⟨_, by first | rfl | (simp [errW_none, errW_some] <;> rfl) | (simp [*, errW_none, errW_some] <;> rfl), by (with_reducible repeat (first | apply Kd.R_alloc | apply Kd.R_drewN | apply Kd.R_drew)); exact HO_5.out, by repeat (first | (with_reducible first | exact HB.out | apply below_alloc | apply pw_below_drewN | apply below_drew1) | exact HB.out)⟩

/-! ### impl_LeastMoves: function 47: this session's own text -/
theorem enters_any {P : Program} {f : FuncId} {fn : Func} {c : Code} (hf : P.funcs[f]? = some fn) (hname : (fn.name == "runtime.NumGoroutine") = false) (hb : fn.body = some c) (args : Array Value) (w : World) : (callFunc f args).run P w = .ok (.enter f args) w := by
  have h1 : fn.name ≠ "runtime.NumGoroutine" := by simpa using hname
  simp [callFunc, hf, h1, hb, mark]

/-- A hull that is valid. -/
def vh (x : S73) : Bool := decide (1 ≤ x.f0 ∧ x.f0 ≤ 40 ∧ 1 ≤ x.f1 ∧ x.f1 ≤ 100 ∧ 1 ≤ x.f2 ∧ x.f2 ≤ 20)
def In8 (x : S73) : Prop := (-128 ≤ x.f0 ∧ x.f0 ≤ 127) ∧ (-128 ≤ x.f1 ∧ x.f1 ≤ 127) ∧ (-128 ≤ x.f2 ∧ x.f2 ≤ 127)

theorem implValid_is (a b c : Int) : impl_ValidHull.f a b c = some (vh ⟨a, b, c⟩) := by
  unfold impl_ValidHull.f
  show _ = some (decide (1 ≤ a ∧ a ≤ 40 ∧ 1 ≤ b ∧ b ≤ 100 ∧ 1 ≤ c ∧ c ≤ 20))
  repeat' split
  all_goals first | exact some_dec (by omega) | exact some_decF (by omega)

def codeH (l : List S73) : Int := if l.all vh then (if l.length > 7 then 3 else 0) else 1

theorem hullsCode_l0 (l : List S73) (hl : l.length ≤ 1152921504606846976) : ∀ (rest : List S73) (p k : Nat), l.drop p = rest → rest.length < k →
    impl_hullsCode.l0 k l l (l.length : Int) (p : Int) = some (if rest.all vh then (if l.length > 7 then 3 else 0) else 1) := by
  intro rest
  induction rest with
  | nil =>
    intro p k hd hk
    obtain ⟨k, rfl⟩ : ∃ m, k = m + 1 := ⟨k - 1, by simp at hk; omega⟩
    have := of_drop_nil hd
    simp only [impl_hullsCode.l0]
    rw [if_neg (by omega)]
    by_cases h : l.length > 7
    · rw [if_pos (by omega)]; simp [h]
    · rw [if_neg (by omega)]; simp [h]
  | cons x rest ih =>
    intro p k hd hk
    simp only [List.length_cons] at hk
    obtain ⟨k, rfl⟩ : ∃ m, k = m + 1 := ⟨k - 1, by omega⟩
    obtain ⟨hp, hd', hx⟩ := of_drop hd
    simp only [impl_hullsCode.l0, rd_T73, hx, implValid_is, Option.bind_some]
    rw [if_pos (by omega), if_pos (by omega), if_pos (by omega), step64 hp hl, ih (p + 1) k hd' (by omega)]
    cases hv : vh x <;> simp [hv]

theorem hullsCode_is (l : List S73) (hl : l.length ≤ 1152921504606846976) (k : Nat) (hk : l.length < k) : impl_hullsCode.f k l = some (codeH l) := by
  unfold impl_hullsCode.f codeH
  exact hullsCode_l0 l hl l 0 k rfl hk

theorem codeH_ok {l : List S73} (h : codeH l = 0) : l.length ≤ 7 ∧ ∀ x ∈ l, vh x = true := by
  unfold codeH at h
  split at h
  · rename_i ha
    split at h
    · cases h
    · exact ⟨by omega, by simpa using ha⟩
  · cases h

def mayH (x y : S73) : Bool := decide (x.f2 - y.f2 ≤ 2 ∧ y.f2 - x.f2 ≤ 2 ∧ y.f1 ≤ x.f1 + 3)

/-- The program takes the difference of the heights as an int8: with valid hulls nothing wraps. -/
theorem implMay_is (x y : S73) (hx : vh x = true) (hy : vh y = true) : impl_mayLie.f x.f0 x.f1 x.f2 y.f0 y.f1 y.f2 = some (mayH x y) := by
  simp only [vh, decide_eq_true_eq] at hx hy
  unfold impl_mayLie.f mayH
  have e : IntKind.i8.wrap (x.f2 - y.f2) = x.f2 - y.f2 := by
    rw [w8_cases]
    split <;> omega
  rw [e, w64_id (a := x.f1) (by omega), w64_id (a := y.f1) (by omega), w64_id (by omega)]
  repeat' split
  all_goals first | exact some_dec (by omega) | exact some_decF (by omega)

/-- The first hull that may not lie where it lies, from place i on. -/
def wrongFrom : Int → S73 → List S73 → Int
  | _, _, [] => -1
  | i, x, y :: r => if mayH x y then wrongFrom (i + 1) y r else i
def wrongH : List S73 → Int
  | [] => -1
  | x :: r => wrongFrom 1 x r

theorem wrongFrom_ge (r : List S73) : ∀ (i : Int) (x : S73), 0 ≤ i → -1 ≤ wrongFrom i x r ∧ wrongFrom i x r < i + r.length ∨ wrongFrom i x r = -1 := by
  induction r with
  | nil => intro i x _; right; rfl
  | cons y r ih =>
    intro i x h0
    simp only [wrongFrom, List.length_cons]
    split
    · rcases ih (i + 1) y (by omega) with h | h
      · left; omega
      · right; exact h
    · left; omega

theorem wrong_l0 (l : List S73) (hl : l.length ≤ 1152921504606846976) (hv : ∀ x ∈ l, vh x = true) : ∀ (rest : List S73) (x : S73) (p k : Nat), l.drop p = x :: rest → rest.length < k →
    impl_wrong.l0 k l ((p + 1 : Nat) : Int) = some (wrongFrom ((p + 1 : Nat) : Int) x rest) := by
  intro rest
  induction rest with
  | nil =>
    intro x p k hd hk
    obtain ⟨k, rfl⟩ : ∃ m, k = m + 1 := ⟨k - 1, by simp at hk; omega⟩
    obtain ⟨hp, hd', hx⟩ := of_drop hd
    have := of_drop_nil hd'
    simp only [impl_wrong.l0, wrongFrom]
    rw [if_neg (by omega)]
  | cons y rest ih =>
    intro x p k hd hk
    simp only [List.length_cons] at hk
    obtain ⟨k, rfl⟩ : ∃ m, k = m + 1 := ⟨k - 1, by omega⟩
    obtain ⟨hp, hd', hx⟩ := of_drop hd
    obtain ⟨hp', hd'', hy⟩ := of_drop hd'
    have vx := hv x (List.mem_of_mem_drop (by rw [hd]; exact List.mem_cons_self))
    have vy := hv y (List.mem_of_mem_drop (by rw [hd']; exact List.mem_cons_self))
    have e1 : wrap64 (((p + 1 : Nat) : Int) - 1) = (p : Int) := by rw [w64_id (by omega)]; omega
    simp only [impl_wrong.l0, e1, rd_T73, hx, hy, implMay_is x y vx vy, Option.bind_some, wrongFrom]
    rw [if_pos (by omega), if_pos (by omega), if_pos (by omega), if_pos (by omega), step64 hp' hl]
    rw [ih y (p + 1) k hd' (by omega)]
    cases mayH x y <;> simp [w64_id] <;> rfl

theorem wrong_is (l : List S73) (hl : l.length ≤ 1152921504606846976) (hv : ∀ x ∈ l, vh x = true) (k : Nat) (hk : l.length < k) : impl_wrong.f k l = some (wrongH l) := by
  unfold impl_wrong.f
  cases l with
  | nil =>
    obtain ⟨k, rfl⟩ : ∃ m, k = m + 1 := ⟨k - 1, by simp at hk; omega⟩
    simp only [impl_wrong.l0]
    rw [if_neg (by simp)]
    rfl
  | cons x r =>
    have := wrong_l0 (x :: r) hl hv r x 0 k rfl (by simp at hk; omega)
    simpa [wrongH] using this

theorem vh_in8 {x : S73} (h : vh x = true) : In8 x := by
  simp only [vh, decide_eq_true_eq] at h
  exact ⟨by omega, by omega, by omega⟩

def pickH (l : List S73) (o : List Int) : List S73 := o.map fun i => rd_T73 l i
theorem inOrder_l0 (l : List S73) (o : List Int) (ho : o.length ≤ 1048576) (hin : ∀ x ∈ o, 0 ≤ x ∧ x < l.length) : ∀ (rest : List Int) (p k : Nat) (ys : List S73), o.drop p = rest → rest.length < k → ys.length = p →
    impl_inOrder.l0 k l ys o (o.length : Int) (p : Int) = some (ys ++ pickH l rest) := by
  intro rest
  induction rest with
  | nil =>
    intro p k ys hd hk hy
    obtain ⟨k, rfl⟩ : ∃ m, k = m + 1 := ⟨k - 1, by simp at hk; omega⟩
    have := of_drop_nil hd
    simp only [impl_inOrder.l0, pickH, List.map_nil, List.append_nil]
    rw [if_neg (by omega)]
  | cons x rest ih =>
    intro p k ys hd hk hy
    simp only [List.length_cons] at hk
    obtain ⟨k, rfl⟩ : ∃ m, k = m + 1 := ⟨k - 1, by omega⟩
    obtain ⟨hp, hd', hx⟩ := of_drop hd
    have hxi := hin x (List.mem_of_mem_drop (by rw [hd]; exact List.mem_cons_self))
    simp only [impl_inOrder.l0, rd, hx]
    rw [if_pos (by omega), if_pos (by omega), if_pos (by omega), if_pos hxi.1, if_pos hxi.2, if_pos (by omega), step64 hp (by omega), ih (p + 1) k _ hd' (by omega) (by simp [hy])]
    simp [pickH]
theorem inOrder_is (l : List S73) (o : List Int) (ho : o.length ≤ 1048576) (hin : ∀ x ∈ o, 0 ≤ x ∧ x < l.length) (k : Nat) (hk : o.length < k) : impl_inOrder.f k l o = some (pickH l o) := by
  unfold impl_inOrder.f
  have := inOrder_l0 l o ho hin o 0 k [] rfl hk rfl
  simpa using this
theorem pickH_valid {l : List S73} {o : List Int} (hv : ∀ x ∈ l, vh x = true) (hin : ∀ x ∈ o, 0 ≤ x ∧ x < l.length) : ∀ x ∈ pickH l o, vh x = true := by
  intro x hx
  obtain ⟨i, hi, rfl⟩ := List.mem_map.1 hx
  have := hin i hi
  refine hv _ ?_
  rw [rd_T73, List.getD_eq_getElem?_getD, List.getElem?_eq_getElem (by omega)]
  exact List.getElem_mem _

/-- Each number below n at most once, none of s. -/
def eachB (n : Int) : List Int → List Int → Bool
  | _, [] => true
  | s, x :: r => if 0 ≤ x ∧ x < n then (if s.contains x = true then false else eachB n (s ++ [x]) r) else false
def okE (n : Nat) (r : List Int) : Bool := eachB n [] r && decide (r.length = n)
theorem eachB_iff (n : Int) : ∀ (r s : List Int), eachB n s r = true ↔ (∀ x ∈ r, 0 ≤ x ∧ x < n) ∧ r.Nodup ∧ ∀ x ∈ r, x ∉ s
  | [], s => by simp [eachB]
  | x :: r, s => by
    have ih := eachB_iff n r (s ++ [x])
    simp only [eachB]
    by_cases h1 : 0 ≤ x ∧ x < n
    · rw [if_pos h1]
      by_cases h2 : s.contains x = true
      · rw [if_pos h2]
        have : x ∈ s := by simpa using h2
        constructor
        · intro h; cases h
        · intro h; exact absurd this (h.2.2 x List.mem_cons_self)
      · rw [if_neg h2, ih]
        have hx : x ∉ s := by simpa using h2
        constructor
        · intro ⟨a, b, c⟩
          refine ⟨fun y hy => ?_, List.nodup_cons.2 ⟨fun hm => c x hm (by simp), b⟩, fun y hy => ?_⟩
          · rcases List.mem_cons.1 hy with rfl | hy
            · exact h1
            · exact a y hy
          · rcases List.mem_cons.1 hy with rfl | hy
            · exact hx
            · exact fun hm => c y hy (List.mem_append_left _ hm)
        · intro ⟨a, b, c⟩
          obtain ⟨b1, b2⟩ := List.nodup_cons.1 b
          refine ⟨fun y hy => a y (List.mem_cons_of_mem _ hy), b2, fun y hy hm => ?_⟩
          rcases List.mem_append.1 hm with hm | hm
          · exact c y (List.mem_cons_of_mem _ hy) hm
          · rw [List.mem_singleton.1 hm] at hy; exact b1 hy
    · rw [if_neg h1]
      constructor
      · intro h; cases h
      · intro h; exact absurd (h.1 x List.mem_cons_self) h1
theorem sort_each (n : Nat) (r : List Int) : decide (sort64 r = cntI n) = okE n r := by
  have hp : (sort64 r).Perm r := List.mergeSort_perm ..
  rw [Bool.eq_iff_iff]
  unfold okE
  rw [Bool.and_eq_true, decide_eq_true_iff, decide_eq_true_iff, eachB_iff]
  constructor
  · intro h
    rw [h] at hp
    refine ⟨⟨fun x hx => cntI_mem.1 (hp.mem_iff.2 hx), hp.nodup_iff.1 (cntI_nodup n), fun x _ => by simp⟩, ?_⟩
    rw [← hp.length_eq, cntI_length]
  · intro ⟨⟨h1, h2, _⟩, h3⟩
    have hq := perm_of_sub r (cntI n) h2 (fun x hx => cntI_mem.2 (h1 x hx)) (by rw [cntI_length]; omega)
    refine List.Perm.eq_of_pairwise (le := fun a b => decide (a ≤ b) = true) (fun a b _ _ hab hba => ?_) ?_ ?_ (hp.trans hq)
    · have := of_decide_eq_true hab
      have := of_decide_eq_true hba
      omega
    · exact List.pairwise_mergeSort (fun a b c h1 h2 => decide_eq_true (by have := of_decide_eq_true h1; have := of_decide_eq_true h2; omega)) (fun a b => by
        rcases Int.le_total a b with h | h
        · rw [decide_eq_true h]; rfl
        · rw [decide_eq_true (p := b ≤ a) h, Bool.or_true]) r
    · exact (cntI_lt n).imp (fun h => decide_eq_true (by omega))

/-- The place of x in a list. -/
def idxI (x : Int) : List Int → Nat
  | [] => 0
  | y :: r => if x = y then 0 else idxI x r + 1
theorem idxI_lt {x : Int} : ∀ {t : List Int}, x ∈ t → idxI x t < t.length
  | y :: r, h => by
    simp only [idxI, List.length_cons]
    by_cases e : x = y
    · rw [if_pos e]; omega
    · rw [if_neg e]
      have := idxI_lt (t := r) (by rcases List.mem_cons.1 h with h | h; exact absurd h e; exact h)
      omega
theorem idxI_erase {x : Int} : ∀ {t : List Int}, x ∈ t → t.take (idxI x t) ++ t.drop (idxI x t + 1) = t.erase x
  | y :: r, h => by
    simp only [idxI]
    rw [List.erase_cons]
    by_cases e : x = y
    · rw [if_pos e, if_pos (beq_iff_eq.2 e.symm)]; simp
    · rw [if_neg e, if_neg (fun g => e (beq_iff_eq.1 g).symm)]
      have := idxI_erase (t := r) (by rcases List.mem_cons.1 h with h | h; exact absurd h e; exact h)
      simp [this]
theorem index_l0 (t : List Int) (x : Int) (ht : t.length ≤ 1048576) : ∀ (rest : List Int) (p k : Nat), t.drop p = rest → rest.length < k → x ∈ rest → slices_Index_int64_int64.l0 k t x (t.length : Int) (p : Int) = some (((p + idxI x rest : Nat)) : Int) := by
  intro rest
  induction rest with
  | nil => intro p k hd hk hx; cases hx
  | cons y rest ih =>
    intro p k hd hk hx
    simp only [List.length_cons] at hk
    obtain ⟨k, rfl⟩ : ∃ m, k = m + 1 := ⟨k - 1, by omega⟩
    obtain ⟨hp, hd', hy⟩ := of_drop hd
    simp only [slices_Index_int64_int64.l0, rd, hy, idxI]
    rw [if_pos (by omega), if_pos (by omega), if_pos (by omega)]
    by_cases e : x = y
    · rw [if_pos e, if_pos e]; rfl
    · rw [if_neg e, if_neg e, step64 hp (by omega), ih (p + 1) k hd' (by omega) (by rcases List.mem_cons.1 hx with h | h; exact absurd h e; exact h)]
      congr 2
      omega
/-- The moves if those that lie in t leave. -/
def moveP : List Int → List Int → Int
  | _, [] => 0
  | t, x :: xs => ((t.length : Int) - 1 - idxI x t) + moveP (t.erase x) xs
theorem moves_l0 (r : List Int) (hr : r.length ≤ 1048576) : ∀ (rest : List Int) (p k : Nat) (all : Int) (t : List Int), r.drop p = rest → (∀ y ∈ rest, y ∈ t) → rest.Nodup → t.length ≤ 1048576 → rest.length + t.length + 1 < k → 0 ≤ all → all + (rest.length : Int) * 1048576 ≤ 4611686018427387904 →
    impl_moves.l0 k all t r (r.length : Int) (p : Int) = some (all + moveP t rest) := by
  intro rest
  induction rest with
  | nil =>
    intro p k all t hd _ _ _ hk _ _
    obtain ⟨k, rfl⟩ : ∃ m, k = m + 1 := ⟨k - 1, by omega⟩
    have := of_drop_nil hd
    simp only [impl_moves.l0, moveP]
    rw [if_neg (by omega), Int.add_zero]
  | cons x rest ih =>
    intro p k all t hd hin hn ht hk h0 h1
    simp only [List.length_cons] at hk h1
    obtain ⟨k, rfl⟩ : ∃ m, k = m + 1 := ⟨k - 1, by omega⟩
    obtain ⟨hp, hd', hx⟩ := of_drop hd
    obtain ⟨n1, n2⟩ := List.nodup_cons.1 hn
    have hxt := hin x List.mem_cons_self
    have hlt := idxI_lt hxt
    have hle := List.length_erase_of_mem hxt
    have hI : slices_Index_int64_int64.f k t x = some ((idxI x t : Nat) : Int) := by
      unfold slices_Index_int64_int64.f
      have := index_l0 t x ht t 0 k rfl (by omega) hxt
      rw [Nat.zero_add] at this
      exact this
    have hw : wrap64 (((idxI x t : Nat) : Int) + 1) = ((idxI x t + 1 : Nat) : Int) := step64 hlt (by omega)
    have he := idxI_erase hxt
    have hlen : (t.take (idxI x t)).length + (t.drop (idxI x t + 1)).length = t.length - 1 := by rw [← List.length_append, he, hle]
    have hstep : True → wrap64 ((p : Int) + 1) = ((p + 1 : Nat) : Int) := fun _ => step64 hp (by omega)
    simp only [impl_moves.l0, rd, hx, moveP]
    rw [if_pos (by omega), if_pos (by omega), if_pos (by omega), hI]
    simp only [Option.bind_some]
    rw [if_pos (by omega), if_pos (by omega), hw, Int.toNat_natCast, Int.toNat_natCast]
    unfold slices_Clone_int64_int64.f
    rw [if_pos (by omega)]
    simp only [Option.bind_some]
    rw [if_pos (by omega), if_pos (by omega), if_pos (by omega), he, hstep trivial, w64_id (a := (t.length : Int) - 1) (by omega), w64_id (a := (t.length : Int) - 1 - _) (by omega), w64_id (by omega)]
    rw [ih (p + 1) k _ (t.erase x) hd' (fun y hy => (List.mem_erase_of_ne (fun e => by rw [e] at hy; exact n1 hy)).2 (hin y (List.mem_cons_of_mem _ hy))) n2 (by omega) (by omega) (by omega) (by omega)]
    congr 1
    omega
theorem moves_is (t r : List Int) (ht : t.length ≤ 1048576) (hr : r.length ≤ 1048576) (hin : ∀ y ∈ r, y ∈ t) (hn : r.Nodup) (k : Nat) (hk : r.length + t.length + 1 < k) : impl_moves.f k t r = some (moveP t r) := by
  unfold impl_moves.f slices_Clone_int64_int64.f
  rw [if_pos (by omega)]
  simp only [Option.bind_some]
  have e := moves_l0 r hr r 0 k 0 t rfl hin hn ht hk (by omega) (by omega)
  have e' : impl_moves.l0 k 0 t r (r.length : Int) 0 = _ := e
  rw [e', Int.zero_add]

def leastSt (l : List S73) (r : List Int) (s : List Int × Int) (o : List Int) : (List Int × Int) × Bool := (if wrongH (pickH l o) ≥ 0 then s else if s.2 < 0 ∨ moveP o r < s.2 then (o, moveP o r) else s, true)
def leastR (l : List S73) (r : List Int) : List Int × Int := (runAll (leastSt l r) ([], -1) (exts l.length l.length [])).1
def impl_LeastMoves.f (l0 : List S73) (l1 : List Int) : Option (List Int × Int × Int) := if l0.length ≤ 1048576 ∧ l1.length ≤ 1048576 then some (if codeH l0 = 0 then (if okE l0.length l1 = true then (if (leastR l0 l1).2 < 0 then ([], 0, 6) else ((leastR l0 l1).1, (leastR l0 l1).2, 0)) else ([], 0, 4)) else ([], 0, codeH l0)) else none
/-- The state of the search in memory. -/
def LeastInv (w0 : World) (A0 : Option Addr) (c0 : Nat) (l0 : List S73) (A1 : Option Addr) (c1 : Nat) (l1 : List Int) (L V O F : Nat) (G : Nat) (s : List Int × Int) (W : World) : Prop :=
  Below w0.heap.size w0 W ∧ W.heap[L]? = some (.cells #[.slice A0 l0.length c0] 38 (0, 0)) ∧ W.heap[V]? = some (.cells #[.slice A1 l1.length c1] 24 (0, 0)) ∧ W.heap[F]? = some (.cells #[.int .i64 s.2] 2 (0, 0)) ∧ ∃ v, W.heap[O]? = some (.cells #[v] 24 (0, 0)) ∧ Kd.R (Kd.int .i64) 2 W (G + 1) (fun _ => True) v s.1
theorem own_step {W W' : World} {B : Nat} {v : Value} {xs : List Int} (h : Kd.R (Kd.int .i64) 2 W B (fun _ => True) v xs) (hm : ∀ k, B ≤ k → k < W.heap.size → W'.heap[k]? = W.heap[k]?) : Kd.R (Kd.int .i64) 2 W' B (fun _ => True) v xs :=
  Kd.R_mono (Kd.R_step (Kd.R_bound h) (fun k hk hlt => hm k hk.2.1 hlt)) (fun _ _ => trivial)
theorem own_only {S : Nat → Prop} {W W' : World} {B : Nat} {v : Value} {xs : List Int} (h : Kd.R (Kd.int .i64) 2 W B (fun _ => True) v xs) (k : Only S W W') (hs : ∀ i, S i → i < B) : Kd.R (Kd.int .i64) 2 W' B (fun _ => True) v xs :=
  own_step h (fun i hi hlt => k.block i hlt (fun g => by have := hs i g; omega))
theorem okE_all {n : Nat} {r : List Int} (h : okE n r = true) : (∀ x ∈ r, 0 ≤ x ∧ x < n) ∧ r.Nodup ∧ r.length = n := by
  unfold okE at h
  rw [Bool.and_eq_true, decide_eq_true_iff, eachB_iff] at h
  exact ⟨h.1.1, h.1.2.1, h.2⟩
set_option maxHeartbeats 4000000 in
set_option maxRecDepth 100000 in
theorem least_cb (w0 : World) (A0 : Option Addr) (c0 : Nat) (l0 : List S73) (hr0 : Kd.C k73 w0 A0 l0.length l0) (hc0 : l0.length ≤ c0) (A1 : Option Addr) (c1 : Nat) (l1 : List Int) (hr1 : Kd.C (Kd.int .i64) w0 A1 l1.length l1) (hc1 : l1.length ≤ c1) (hok : okE l0.length l1 = true) (hv : ∀ x ∈ l0, vh x = true) (h7 : l0.length ≤ 7) (L V O F B0 : Nat) (hL : w0.heap.size ≤ L) (hLV : L < V) (hO : V < O) (hF : O < F) (hB : F < B0) :
    Cb (List Int × Int) l0.length B0 79 #[.pointer (some ⟨L, 0, none⟩), .pointer (some ⟨V, 0, none⟩), .pointer (some ⟨F, 0, none⟩), .pointer (some ⟨O, 0, none⟩)] (leastSt l0 l1) (LeastInv w0 A0 c0 l0 A1 c1 l1 L V O F) where
  enters := enters_any Try.func79 (by kernel_rfl) rfl
  stays := by
    intro G s W W' hG ⟨h1, h2, h2', h3, v, h4, h5⟩ hO
    have e1 := blk_lt h2
    have e1' := blk_lt h2'
    have e2 := blk_lt h3
    have e3 := blk_lt h4
    refine ⟨Only.below h1 hO h1.size (fun i hi => by subst hi; omega), hO.blk h2 (fun e => by subst e; omega), hO.blk h2' (fun e => by subst e; omega), hO.blk h3 (fun e => by subst e; omega), v, hO.blk h4 (fun e => by subst e; omega), own_only h5 hO (fun i hi => by subst hi; omega)⟩
  called := by
    intro G s W v o hG hGl hI hR ho hino
    obtain ⟨hin, hnd⟩ := hino
    obtain ⟨A2, c2, rfl, hc2, hr2⟩ := Kd.R_reads hR
    obtain ⟨h1, h2, h2', h3, vo, h4, h5⟩ := hI
    obtain ⟨k1, k2, k3⟩ := okE_all hok
    have hio : Aside0 (∀ W1, Below W.heap.size W W1 → Calls Try.prog 81 #[.slice A0 l0.length c0, .slice A2 o.length c2] W1 fun e w' => ∃ v0_ : Value, e = .returned v0_ ∧ Kd.R k73 73 w' W1.heap.size (fun _ => True) v0_ (pickH l0 o) ∧ Below W1.heap.size W1 w') := ⟨fun W1 hb =>
      impl_inOrder.calls (o.length + 1) A0 c0 l0 A2 c2 o _ W1 (Kd.C_below (Kd.C_below hr0 h1) hb) hc0 (Kd.C_below hr2 hb) hc2 (inOrder_is l0 o (by omega) hin _ (by omega))⟩
    have hpl : (pickH l0 o).length = o.length := by simp [pickH]
    have hwr : Aside0 (∀ W1 A2 c2, Kd.C k73 W1 A2 (pickH l0 o).length (pickH l0 o) → (pickH l0 o).length ≤ c2 → Calls Try.prog 80 #[.slice A2 (pickH l0 o).length c2] W1 fun e w' => e = .returned (.int .i64 (wrongH (pickH l0 o))) ∧ Below W1.heap.size W1 w') := ⟨fun W1 A2 c2 hC hc =>
      impl_wrong.calls ((pickH l0 o).length + 1) A2 c2 _ _ W1 hC hc (wrong_is _ (by omega) (pickH_valid hv hin) _ (by omega))⟩
    have hperm := perm_of_sub o (cntI l0.length) hnd (fun x hx => cntI_mem.2 (hin x hx)) (by rw [cntI_length]; omega)
    have hmo : Aside0 (∀ W1, Below W.heap.size W W1 → Calls Try.prog 64 #[.slice A2 o.length c2, .slice A1 l1.length c1] W1 fun e w' => e = .returned (.int .i64 (moveP o l1)) ∧ Below W1.heap.size W1 w') := ⟨fun W1 hb =>
      impl_moves.calls (l1.length + o.length + 2) A2 c2 o A1 c1 l1 _ W1 (Kd.C_below hr2 hb) hc2 (Kd.C_below (Kd.C_below hr1 h1) hb) hc1 (moves_is o l1 (by omega) (by omega) (fun y hy => hperm.mem_iff.2 (cntI_mem.2 (k1 y hy))) k2 _ (by omega))⟩
    have hLc := blk_cell h2 0
    have HV0 := Aside0.mk h2'
    have HF := Aside0.mk h3
    have HO := Aside0.mk h4
    have HV := Aside0.mk hR
    have HW := Aside0.mk (And.intro h1 h2)
    have HH5 := Aside0.mk h5
    have HLt : Aside0 (L < W.heap.size ∧ F < W.heap.size ∧ O < W.heap.size ∧ B0 ≤ G ∧ V < W.heap.size) := ⟨blk_lt h2, blk_lt h3, blk_lt h4, hG, blk_lt h2'⟩
    have HB := Aside0.mk (Below.refl W.heap.size W)
    obtain ⟨q, hq⟩ : ∃ q, q = wrongH (pickH l0 o) := ⟨_, rfl⟩
    obtain ⟨nm, hnm⟩ : ∃ nm, nm = moveP o l1 := ⟨_, rfl⟩
    obtain ⟨s1, s2⟩ := s
    have HQ := Aside0.mk (And.intro hq hnm)
    rw [← hq] at hwr
    rw [← hnm] at hmo
    clear h1 h2 h2' h3 h4 h5 hR hr2 hc2 hc1 hr1 hc0 hr0 hin ho hG hGl hpl hq hnm k1 k2 k3 hok hnd hperm
    by_cases c6 : 0 ≤ q
    · have c6b : decide (0 ≤ q) = true := decide_eq_true c6
      have HST : Aside0 (leastSt l0 l1 (s1, s2) o = ((s1, s2), true)) := ⟨by unfold leastSt; rw [← HQ.out.1, if_pos c6]⟩
      clear c6
      go_enter Try.func79, Try.ntmps79
      go_wp2_with (first | (go_at_call 81; refine (hio.out _ ?_).mono ?_; (exact HB.out); rintro e w1 ⟨v2, rfl, hv2, hb2⟩; obtain ⟨A3, c3, rfl, hc3, hr3⟩ := Kd.R_reads hv2; have HR2 := Aside0.mk (And.intro hr3 hc3); have HB2 := Aside0.mk hb2; clear hv2 hr3 hc3 hb2) | (go_at_call 80; refine (hwr.out _ _ _ HR2.out.1 HR2.out.2).mono ?_; rintro e w2 ⟨rfl, hb3⟩; have HB3 := Aside0.mk (HB2.out.trans (hb3.mono HB2.out.size)); clear hb3))
      go_ret
      have hO : Only (· < B0) W w2 := Only.of_below HB3.out
      refine ⟨by rw [HST.out]; first | rfl | (simp; done), ?_, hO⟩
      rw [HST.out]
      exact ⟨HW.out.1.trans (HB3.out.mono HW.out.1.size), blk_below HW.out.2 HB3.out, blk_below HV0.out HB3.out, blk_below HF.out HB3.out, _, blk_below HO.out HB3.out, Kd.R_below HH5.out HB3.out⟩
    · have c6b : decide (0 ≤ q) = false := decide_eq_false c6
      by_cases c7 : s2 < 0 ∨ nm < s2
      · have HST : Aside0 (leastSt l0 l1 (s1, s2) o = ((o, nm), true)) := ⟨by unfold leastSt; rw [← HQ.out.1, if_neg c6, ← HQ.out.2, if_pos c7]⟩
        have HC7 := Aside0.mk c7
        clear c6 c7
        by_cases c8 : s2 < 0
        · have c8b : decide (s2 < 0) = true := decide_eq_true c8
          clear c8
          go_enter Try.func79, Try.ntmps79
          go_wp2_with (first | (go_at_call 81; refine (hio.out _ ?_).mono ?_; (exact HB.out); rintro e w1 ⟨v2, rfl, hv2, hb2⟩; obtain ⟨A3, c3, rfl, hc3, hr3⟩ := Kd.R_reads hv2; have HR2 := Aside0.mk (And.intro hr3 hc3); have HB2 := Aside0.mk hb2; clear hv2 hr3 hc3 hb2) | (go_at_call 80; refine (hwr.out _ _ _ HR2.out.1 HR2.out.2).mono ?_; rintro e w2 ⟨rfl, hb3⟩; have HB3 := Aside0.mk (HB2.out.trans (hb3.mono HB2.out.size)); clear hb3; have hVc := blk_cell (blk_below HV0.out HB3.out) 0) | (go_at_call 64; refine (hmo.out _ HB3.out).mono ?_; rintro e w3 ⟨rfl, hb4⟩; have HB4 := Aside0.mk (HB3.out.trans (hb4.mono HB3.out.size)); clear hb4 hVc; have hFb := blk_below HF.out HB4.out; have hOb := blk_below HO.out HB4.out; have hFc := blk_cell hFb 0; have hFf := blk_frozen hFb 0; have hOc := blk_cell hOb 0; have hOf := blk_frozen hOb 0; have HMB := Aside0.mk (And.intro hFb hOb); clear hFb hOb))
          go_ret
          have hO : Only (· < B0) W ((w3.setCell ⟨O, 0, none⟩ (.slice A2 o.length c2)).setCell ⟨F, 0, none⟩ (.int .i64 nm)) := Only.set (S := (· < B0)) (Only.set (S := (· < B0)) (Only.of_below HB4.out) (show O < B0 by omega) 0 _) (show F < B0 by omega) 0 _
          refine ⟨by rw [HST.out]; first | rfl | (simp; done), ?_, hO⟩
          rw [HST.out]
          exact ⟨((HW.out.1.trans (HB4.out.mono HW.out.1.size)).setCell (show w0.heap.size ≤ O by omega) _).setCell (show w0.heap.size ≤ F by omega) _, blk_far (blk_far (blk_below HW.out.2 HB4.out) (show L ≠ O by omega) _) (show L ≠ F by omega) _, blk_far (blk_far (blk_below HV0.out HB4.out) (show V ≠ O by omega) _) (show V ≠ F by omega) _, blk_set (blk_far HMB.out.1 (show F ≠ O by omega) _) 0 _, _, blk_far (blk_set HMB.out.2 0 _) (show O ≠ F by omega) _, own_only HV.out hO (fun i hi => by have := HLt.out.2.2.2.1; omega)⟩
        · have c8b : decide (s2 < 0) = false := decide_eq_false c8
          have c9b : decide (nm < s2) = true := decide_eq_true (by have := HC7.out; omega)
          clear c8
          go_enter Try.func79, Try.ntmps79
          go_wp2_with (first | (go_at_call 81; refine (hio.out _ ?_).mono ?_; (exact HB.out); rintro e w1 ⟨v2, rfl, hv2, hb2⟩; obtain ⟨A3, c3, rfl, hc3, hr3⟩ := Kd.R_reads hv2; have HR2 := Aside0.mk (And.intro hr3 hc3); have HB2 := Aside0.mk hb2; clear hv2 hr3 hc3 hb2) | (go_at_call 80; refine (hwr.out _ _ _ HR2.out.1 HR2.out.2).mono ?_; rintro e w2 ⟨rfl, hb3⟩; have HB3 := Aside0.mk (HB2.out.trans (hb3.mono HB2.out.size)); clear hb3; have hVc := blk_cell (blk_below HV0.out HB3.out) 0) | (go_at_call 64; refine (hmo.out _ HB3.out).mono ?_; rintro e w3 ⟨rfl, hb4⟩; have HB4 := Aside0.mk (HB3.out.trans (hb4.mono HB3.out.size)); clear hb4 hVc; have hFb := blk_below HF.out HB4.out; have hOb := blk_below HO.out HB4.out; have hFc := blk_cell hFb 0; have hFf := blk_frozen hFb 0; have hOc := blk_cell hOb 0; have hOf := blk_frozen hOb 0; have HMB := Aside0.mk (And.intro hFb hOb); clear hFb hOb))
          go_ret
          have hO : Only (· < B0) W ((w3.setCell ⟨O, 0, none⟩ (.slice A2 o.length c2)).setCell ⟨F, 0, none⟩ (.int .i64 nm)) := Only.set (S := (· < B0)) (Only.set (S := (· < B0)) (Only.of_below HB4.out) (show O < B0 by omega) 0 _) (show F < B0 by omega) 0 _
          refine ⟨by rw [HST.out]; first | rfl | (simp; done), ?_, hO⟩
          rw [HST.out]
          exact ⟨((HW.out.1.trans (HB4.out.mono HW.out.1.size)).setCell (show w0.heap.size ≤ O by omega) _).setCell (show w0.heap.size ≤ F by omega) _, blk_far (blk_far (blk_below HW.out.2 HB4.out) (show L ≠ O by omega) _) (show L ≠ F by omega) _, blk_far (blk_far (blk_below HV0.out HB4.out) (show V ≠ O by omega) _) (show V ≠ F by omega) _, blk_set (blk_far HMB.out.1 (show F ≠ O by omega) _) 0 _, _, blk_far (blk_set HMB.out.2 0 _) (show O ≠ F by omega) _, own_only HV.out hO (fun i hi => by have := HLt.out.2.2.2.1; omega)⟩
      · have HST : Aside0 (leastSt l0 l1 (s1, s2) o = ((s1, s2), true)) := ⟨by unfold leastSt; rw [← HQ.out.1, if_neg c6, ← HQ.out.2, if_neg c7]⟩
        have c8b : decide (s2 < 0) = false := decide_eq_false (by omega)
        have c9b : decide (nm < s2) = false := decide_eq_false (by omega)
        clear c6 c7
        go_enter Try.func79, Try.ntmps79
        go_wp2_with (first | (go_at_call 81; refine (hio.out _ ?_).mono ?_; (exact HB.out); rintro e w1 ⟨v2, rfl, hv2, hb2⟩; obtain ⟨A3, c3, rfl, hc3, hr3⟩ := Kd.R_reads hv2; have HR2 := Aside0.mk (And.intro hr3 hc3); have HB2 := Aside0.mk hb2; clear hv2 hr3 hc3 hb2) | (go_at_call 80; refine (hwr.out _ _ _ HR2.out.1 HR2.out.2).mono ?_; rintro e w2 ⟨rfl, hb3⟩; have HB3 := Aside0.mk (HB2.out.trans (hb3.mono HB2.out.size)); clear hb3; have hVc := blk_cell (blk_below HV0.out HB3.out) 0) | (go_at_call 64; refine (hmo.out _ HB3.out).mono ?_; rintro e w3 ⟨rfl, hb4⟩; have HB4 := Aside0.mk (HB3.out.trans (hb4.mono HB3.out.size)); clear hb4 hVc; have hFb := blk_below HF.out HB4.out; have hOb := blk_below HO.out HB4.out; have hFc := blk_cell hFb 0; have hFf := blk_frozen hFb 0; have hOc := blk_cell hOb 0; have hOf := blk_frozen hOb 0; have HMB := Aside0.mk (And.intro hFb hOb); clear hFb hOb))
        go_ret
        have hO : Only (· < B0) W w3 := Only.of_below HB4.out
        refine ⟨by rw [HST.out]; first | rfl | (simp; done), ?_, hO⟩
        rw [HST.out]
        exact ⟨HW.out.1.trans (HB4.out.mono HW.out.1.size), blk_below HW.out.2 HB4.out, blk_below HV0.out HB4.out, blk_below HF.out HB4.out, _, blk_below HO.out HB4.out, Kd.R_below HH5.out HB4.out⟩
set_option maxHeartbeats 4000000 in
set_option maxRecDepth 100000 in
theorem impl_LeastMoves.calls (A0 : Option Addr) (c0 : Nat) (l0 : List (S73)) (A1 : Option Addr) (c1 : Nat) (l1 : List Int) (r1 : List Int) (r2 r3 : Int) (w : World) (hr0 : Kd.C k73 w A0 l0.length l0) (hc0 : l0.length ≤ c0) (hr1 : Kd.C (Kd.int .i64) w A1 l1.length l1) (hc1 : l1.length ≤ c1) (h : impl_LeastMoves.f l0 l1 = some (r1, r2, r3)) :
    Calls Try.prog 47 #[.slice A0 l0.length c0, .slice A1 l1.length c1] w fun e w' => ∃ v0_ : Value, e = .returned (.tuple #[v0_, .int .i64 r2, .int .i64 r3]) ∧ Kd.R (Kd.int .i64) 2 w' w.heap.size (fun _ => True) v0_ r1 ∧ Below w.heap.size w w' := by
  have hcode : codeH l0 = 0 ∨ codeH l0 ≠ 0 := by omega
  unfold impl_LeastMoves.f at h
  by_cases hl : l0.length ≤ 1048576 ∧ l1.length ≤ 1048576
  case neg => rw [if_neg hl] at h; cases h
  rw [if_pos hl] at h
  replace h := Option.some.inj h
  have hcd : Aside0 (∀ W1, Below w.heap.size w W1 → Calls Try.prog 62 #[.slice A0 l0.length c0] W1 fun e w' => e = .returned (.int .i64 (codeH l0)) ∧ Below W1.heap.size W1 w') := ⟨fun W1 hb =>
    impl_hullsCode.calls (l0.length + 1) A0 c0 l0 _ W1 (Kd.C_below hr0 hb) hc0 (hullsCode_is l0 (by omega) _ (by omega))⟩
  have hio : Aside0 (∀ W1, Below (w.heap.size + 2) ((w.alloc (.cells #[.slice A0 l0.length c0] 38)).alloc (.cells #[.slice A1 l1.length c1] 24)) W1 → Calls Try.prog 63 #[.int .i64 l0.length, .slice A1 l1.length c1] W1 fun e w' => e = .returned (.bool (okE l0.length l1)) ∧ Below W1.heap.size W1 w') := ⟨fun W1 hb =>
    impl_isOrder.calls l0.length A1 c1 l1 _ W1 (Kd.C_below hr1 ((below_alloc (below_alloc (Below.refl _ _) _) _).trans (hb.mono (by omega)))) hc1 (by unfold impl_isOrder.f; rw [if_pos ⟨by omega, by omega, by omega⟩, Int.toNat_natCast, sort_each])⟩
  have HB := Aside0.mk (Below.refl w.heap.size w)
  have H2 : Aside0 (((w.alloc (.cells #[.slice A0 l0.length c0] 38)).alloc (.cells #[.slice A1 l1.length c1] 24)).heap[w.heap.size]? = some (.cells #[.slice A0 l0.length c0] 38 (0, 0)) ∧ ((w.alloc (.cells #[.slice A0 l0.length c0] 38)).alloc (.cells #[.slice A1 l1.length c1] 24)).heap[w.heap.size + 1]? = some (.cells #[.slice A1 l1.length c1] 24 (0, 0)) ∧ ((w.alloc (.cells #[.slice A0 l0.length c0] 38)).alloc (.cells #[.slice A1 l1.length c1] 24)).heap.size = w.heap.size + 2) := ⟨blk_alloc (blk_new w _) _, by
    have := blk_new (w.alloc (.cells #[.slice A0 l0.length c0] 38)) (.cells #[.slice A1 l1.length c1] 24)
    rw [show (w.alloc (.cells #[.slice A0 l0.length c0] 38)).heap.size = w.heap.size + 1 by simp] at this
    exact this, by simp⟩
  have hp0 := blk_cell H2.out.1 0
  have hp1 := blk_cell H2.out.2.1 0
  rcases hcode with hc | hc
  · have hok := codeH_ok hc
    rw [if_pos hc] at h
    rw [hc] at hcd
    cases ho : okE l0.length l1 with
    | false =>
      rw [ho, if_neg (by simp)] at h
      rw [ho] at hio
      simp only [Prod.mk.injEq] at h
      obtain ⟨rfl, rfl, rfl⟩ := h
      clear hr0 hc0 hr1 hc1 hok hc hl ho
      go_enter Try.func47, Try.ntmps47
      go_wp2_with (first | (go_at_call 62; refine (hcd.out _ ?_).mono ?_; (exact below_alloc (below_alloc HB.out _) _); rintro e w3 ⟨rfl, hb1⟩; have HB1 : Aside0 (Below (w.heap.size + 2) ((w.alloc (.cells #[.slice A0 l0.length c0] 38)).alloc (.cells #[.slice A1 l1.length c1] 24)) w3) := ⟨hb1.mono (by simp)⟩; have hL1 := blk_cell ((HB1.out.block w.heap.size (by omega)).trans H2.out.1) 0; have hV1 := blk_cell ((HB1.out.block (w.heap.size + 1) (by omega)).trans H2.out.2.1) 0; clear hb1) | (go_at_call 63; refine (hio.out _ HB1.out).mono ?_; rintro e w4 ⟨rfl, hb2⟩; have HB2 := Aside0.mk (HB1.out.trans (hb2.mono (by have := HB1.out.size; rw [H2.out.2.2] at this; exact this))); clear hb2))
      exact bodyPost_ret (v := .tuple #[.slice none 0 0, .int .i64 0, .int .i64 4]) (by simp [results, Try.results47, go_sem]) rfl ⟨_, rfl, Kd.R_nil _ _ _ _ _, (below_alloc (below_alloc (Below.refl _ _) _) _).trans (HB2.out.mono (by omega))⟩
    | true =>
      rw [ho, if_pos rfl] at h
      rw [ho] at hio
      obtain ⟨b, hbf⟩ : ∃ b, b = decide ((leastR l0 l1).2 < 0) := ⟨_, rfl⟩
      have hor : Aside0 (∀ w1, Below (w.heap.size + 2) ((w.alloc (.cells #[.slice A0 l0.length c0] 38)).alloc (.cells #[.slice A1 l1.length c1] 24)) w1 → Calls Try.prog 78 #[.int .i64 l0.length, .func (.func 79) #[] #[.pointer (some ⟨w.heap.size, 0, none⟩), .pointer (some ⟨w.heap.size + 1, 0, none⟩), .pointer (some ⟨w1.heap.size + 1, 0, none⟩), .pointer (some ⟨w1.heap.size, 0, none⟩)]] ((w1.alloc (.cells #[.slice none 0 0] 24)).alloc (.cells #[.int .i64 (-1)] 2)) fun e w' => e = .returned (.tuple #[]) ∧ Below w.heap.size w w' ∧ w'.cell? ⟨w1.heap.size + 1, 0, none⟩ = some (.int .i64 (leastR l0 l1).2) ∧ ∃ v, w'.cell? ⟨w1.heap.size, 0, none⟩ = some v ∧ Kd.R (Kd.int .i64) 2 w' w.heap.size (fun _ => True) v (leastR l0 l1).1) := ⟨fun w1 hb => by
        have hs : w.heap.size + 2 ≤ w1.heap.size := by have := hb.size; rw [H2.out.2.2] at this; exact this
        have hL := (hb.block _ (by omega)).trans H2.out.1
        have hV := (hb.block _ (by omega)).trans H2.out.2.1
        have s1 : (w1.alloc (.cells #[.slice none 0 0] 24)).heap.size = w1.heap.size + 1 := by simp
        have C := least_cb w A0 c0 l0 hr0 hc0 A1 c1 l1 hr1 hc1 ho hok.2 hok.1 w.heap.size (w.heap.size + 1) w1.heap.size (w1.heap.size + 1) ((w1.alloc (.cells #[.slice none 0 0] 24)).alloc (.cells #[.int .i64 (-1)] 2)).heap.size (Nat.le_refl _) (by omega) (by omega) (by omega) (by simp)
        have hw1 : Below w.heap.size w w1 := (below_alloc (below_alloc (Below.refl _ _) _) _).trans (hb.mono (by omega))
        have hO : ((w1.alloc (.cells #[.slice none 0 0] 24)).alloc (.cells #[.int .i64 (-1)] 2)).heap[w1.heap.size]? = some (.cells #[.slice none 0 0] 24 (0, 0)) := blk_alloc (blk_new w1 _) _
        have hF : ((w1.alloc (.cells #[.slice none 0 0] 24)).alloc (.cells #[.int .i64 (-1)] 2)).heap[w1.heap.size + 1]? = some (.cells #[.int .i64 (-1)] 2 (0, 0)) := by
          have := blk_new (w1.alloc (.cells #[.slice none 0 0] 24)) (.cells #[.int .i64 (-1)] 2)
          rw [s1] at this
          exact this
        have := impl_orders.calls ((w1.alloc (.cells #[.slice none 0 0] 24)).alloc (.cells #[.int .i64 (-1)] 2)) C (by omega) ([], -1) (fun G W hG hW => ⟨((hw1.alloc hw1.size _).alloc (by simp; have := hw1.size; omega) _).trans (hW.mono (by have := hw1.size; simp; omega)), blk_below (blk_alloc (blk_alloc hL _) _) hW, blk_below (blk_alloc (blk_alloc hV _) _) hW, blk_below hF hW, _, blk_below hO hW, Kd.R_nil _ _ _ _ _⟩)
        exact this.mono fun e w' ⟨h1, G, hG, h2⟩ => ⟨h1, h2.1, blk_cell h2.2.2.2.1 0, by
          obtain ⟨v, h3, h4⟩ := h2.2.2.2.2
          have hG' : w.heap.size ≤ G := by have := hw1.size; simp at hG; omega
          exact ⟨v, blk_cell h3 0, Kd.R_lower h4 (by omega)⟩⟩⟩
      have HH : Aside0 ((if b = true then (([] : List Int), (0 : Int), (6 : Int)) else ((leastR l0 l1).1, (leastR l0 l1).2, 0)) = (r1, r2, r3)) := ⟨by
        rw [← h, hbf]
        by_cases g : (leastR l0 l1).2 < 0
        · rw [if_pos g, if_pos (decide_eq_true g)]
        · rw [if_neg g, if_neg (by simpa using g)]⟩
      have hbd : decide ((leastR l0 l1).2 < 0) = b := hbf.symm
      clear hr0 hc0 hr1 hc1 hok hc hl h hbf ho
      cases b with
      | true =>
        have HH2 : Aside0 (([] : List Int) = r1 ∧ (0 : Int) = r2 ∧ (6 : Int) = r3) := ⟨by have := HH.out; rw [if_pos rfl] at this; exact ⟨congrArg Prod.fst this, congrArg (·.2.1) this, congrArg (·.2.2) this⟩⟩
        go_enter Try.func47, Try.ntmps47
        go_wp2_with (first | (go_at_call 62; refine (hcd.out _ ?_).mono ?_; (exact below_alloc (below_alloc HB.out _) _); rintro e w3 ⟨rfl, hb1⟩; have HB1 : Aside0 (Below (w.heap.size + 2) ((w.alloc (.cells #[.slice A0 l0.length c0] 38)).alloc (.cells #[.slice A1 l1.length c1] 24)) w3) := ⟨hb1.mono (by simp)⟩; have hL1 := blk_cell ((HB1.out.block w.heap.size (by omega)).trans H2.out.1) 0; have hV1 := blk_cell ((HB1.out.block (w.heap.size + 1) (by omega)).trans H2.out.2.1) 0; clear hb1) | (go_at_call 63; refine (hio.out _ HB1.out).mono ?_; rintro e w4 ⟨rfl, hb2⟩; clear hL1 hV1; have HB2 : Aside0 (Below (w.heap.size + 2) ((w.alloc (.cells #[.slice A0 l0.length c0] 38)).alloc (.cells #[.slice A1 l1.length c1] 24)) w4) := ⟨HB1.out.trans (hb2.mono (by have := HB1.out.size; rw [H2.out.2.2] at this; exact this))⟩; have hL2 : ∀ o o', ((w4.alloc o).alloc o').cell? ⟨w.heap.size, 0, none⟩ = some (.slice A0 l0.length c0) := (fun o o' => blk_cell (blk_alloc (blk_alloc ((HB2.out.block w.heap.size (by omega)).trans H2.out.1) o) o') 0); clear hb2) | (go_at_call 78; refine (hor.out _ HB2.out).mono ?_; rintro e w5 ⟨rfl, hb3, hcm, vo, hco2, hro⟩; have HB3 := Aside0.mk hb3; have HRO := Aside0.mk hro; clear hb3 hro))
        exact bodyPost_ret (v := .tuple #[.slice none 0 0, .int .i64 0, .int .i64 6]) (by simp [results, Try.results47, go_sem]) rfl ⟨_, by rw [← HH2.out.2.1, ← HH2.out.2.2], by rw [← HH2.out.1]; exact Kd.R_nil _ _ _ _ _, HB3.out⟩
      | false =>
        have HH2 : Aside0 ((leastR l0 l1).1 = r1 ∧ (leastR l0 l1).2 = r2 ∧ (0 : Int) = r3) := ⟨by have := HH.out; rw [if_neg (by simp)] at this; exact ⟨congrArg Prod.fst this, congrArg (·.2.1) this, congrArg (·.2.2) this⟩⟩
        go_enter Try.func47, Try.ntmps47
        go_wp2_with (first | (go_at_call 62; refine (hcd.out _ ?_).mono ?_; (exact below_alloc (below_alloc HB.out _) _); rintro e w3 ⟨rfl, hb1⟩; have HB1 : Aside0 (Below (w.heap.size + 2) ((w.alloc (.cells #[.slice A0 l0.length c0] 38)).alloc (.cells #[.slice A1 l1.length c1] 24)) w3) := ⟨hb1.mono (by simp)⟩; have hL1 := blk_cell ((HB1.out.block w.heap.size (by omega)).trans H2.out.1) 0; have hV1 := blk_cell ((HB1.out.block (w.heap.size + 1) (by omega)).trans H2.out.2.1) 0; clear hb1) | (go_at_call 63; refine (hio.out _ HB1.out).mono ?_; rintro e w4 ⟨rfl, hb2⟩; clear hL1 hV1; have HB2 : Aside0 (Below (w.heap.size + 2) ((w.alloc (.cells #[.slice A0 l0.length c0] 38)).alloc (.cells #[.slice A1 l1.length c1] 24)) w4) := ⟨HB1.out.trans (hb2.mono (by have := HB1.out.size; rw [H2.out.2.2] at this; exact this))⟩; have hL2 : ∀ o o', ((w4.alloc o).alloc o').cell? ⟨w.heap.size, 0, none⟩ = some (.slice A0 l0.length c0) := (fun o o' => blk_cell (blk_alloc (blk_alloc ((HB2.out.block w.heap.size (by omega)).trans H2.out.1) o) o') 0); clear hb2) | (go_at_call 78; refine (hor.out _ HB2.out).mono ?_; rintro e w5 ⟨rfl, hb3, hcm, vo, hco2, hro⟩; have HB3 := Aside0.mk hb3; have HRO := Aside0.mk hro; clear hb3 hro))
        go_region
        all_goals go_wp2
        all_goals exact bodyPost_ret (v := .tuple #[vo, .int .i64 (leastR l0 l1).2, .int .i64 0]) (by simp [results, Try.results47, go_sem]) rfl ⟨_, by rw [← HH2.out.2.1, ← HH2.out.2.2], by rw [← HH2.out.1]; exact Kd.R_drew HRO.out, below_drew HB3.out⟩
  · rw [if_neg hc] at h
    simp only [Prod.mk.injEq] at h
    obtain ⟨rfl, rfl, rfl⟩ := h
    have hcb : (codeH l0 == 0) = false := beq_eq_false_iff_ne.mpr hc
    have hcb' : (codeH l0 != 0) = true := bne_iff_ne.mpr hc
    clear hr0 hc0 hr1 hc1 hl hc
    go_enter Try.func47, Try.ntmps47
    go_wp2_with (first | (go_at_call 62; refine (hcd.out _ ?_).mono ?_; (exact below_alloc (below_alloc HB.out _) _); rintro e w3 ⟨rfl, hb1⟩; have HB1 : Aside0 (Below (w.heap.size + 2) ((w.alloc (.cells #[.slice A0 l0.length c0] 38)).alloc (.cells #[.slice A1 l1.length c1] 24)) w3) := ⟨hb1.mono (by simp)⟩; have hL1 := blk_cell ((HB1.out.block w.heap.size (by omega)).trans H2.out.1) 0; have hV1 := blk_cell ((HB1.out.block (w.heap.size + 1) (by omega)).trans H2.out.2.1) 0; clear hb1))
    exact bodyPost_ret (v := .tuple #[.slice none 0 0, .int .i64 0, .int .i64 (codeH l0)]) (by simp [results, Try.results47, go_sem]) rfl ⟨_, rfl, Kd.R_nil _ _ _ _ _, (below_alloc (below_alloc (Below.refl _ _) _) _).trans (HB1.out.mono (by omega))⟩

/-! ### laws_markHullS: function 48 -/
def laws_markHullS.l0 : Nat → List (S73) → Int → Int → Option (Int × (List (S73)))
  | 0, _, _, _ => none
  | k + 1, x0, x1, x5 => if x5 < (x0.length : Int) then (if 0 ≤ x5 then ((some (x0.set (x5 : Int).toNat (⟨IntKind.i8.wrap (x1), (rd_T73 x0 x5).f1, (rd_T73 x0 x5).f2⟩ : S73) : List (S73))).bind fun y245 => ((some (y245.set (x5 : Int).toNat (⟨(rd_T73 y245 x5).f0, IntKind.i8.wrap (wrap64 (x1 + 1)), (rd_T73 y245 x5).f2⟩ : S73) : List (S73))).bind fun y246 => (laws_markHullS.l0 k (y246.set (x5 : Int).toNat (⟨(rd_T73 y246 x5).f0, (rd_T73 y246 x5).f1, IntKind.i8.wrap (wrap64 ((wrap64 (x1 + 1)) + 1))⟩ : S73)) (wrap64 ((wrap64 ((wrap64 (x1 + 1)) + 1)) + 1)) (wrap64 (x5 + 1))))) else (none)) else (some (x1, x0))
def laws_markHullS.f (k : Nat) (l0 : List (S73)) (a1 : Int) : Option (Int × (List (S73))) := laws_markHullS.l0 k l0 a1 0
theorem laws_markHullS.mono_l : ∀ k, (∀ y0 y1 y2, LeO (laws_markHullS.l0 k y0 y1 y2) (laws_markHullS.l0 (k + 1) y0 y1 y2))
  | 0 => fun _ _ _ r h => by simp [laws_markHullS.l0] at h
  | k + 1 => by
    have ih0 := laws_markHullS.mono_l k
    · intro y0 y1 y2
      unfold laws_markHullS.l0
      repeat' first
      | (with_reducible exact ih0 _ _ _)
      | (with_reducible exact LeO.refl _)
      | (with_reducible exact LeO.none _)
      | (with_reducible refine LeO.ite ?_ ?_)
      | (with_reducible refine LeO.bind ?_ (fun _ => ?_))
      | exact ih0 _ _ _
      | exact LeO.none _
      | refine LeO.ite ?_ ?_
      | refine LeO.bind ?_ (fun _ => ?_)
theorem laws_markHullS.mono : ∀ a0 a1 k, LeO (laws_markHullS.f k a0 a1) (laws_markHullS.f (k + 1) a0 a1) := by
  intro a0 a1 k
  have ih0 := laws_markHullS.mono_l k
  unfold laws_markHullS.f
  repeat' first
      | (with_reducible exact ih0 _ _ _)
      | (with_reducible exact LeO.refl _)
      | (with_reducible exact LeO.none _)
      | (with_reducible refine LeO.ite ?_ ?_)
      | (with_reducible refine LeO.bind ?_ (fun _ => ?_))
      | exact ih0 _ _ _
      | exact LeO.none _
      | refine LeO.ite ?_ ?_
      | refine LeO.bind ?_ (fun _ => ?_)
set_option maxHeartbeats 8000000 in
set_option maxRecDepth 100000 in
theorem laws_markHullS.calls (k : Nat) (P0_ : Nat → Prop) (u9000_ : Value) (l0 : List (S73)) (a1 : Int) (r1 : Int) (r2 : List (S73)) (w0 w : World) (hB : Below w0.heap.size w0 w) (ho0 : Kd.R k73 73 w w0.heap.size P0_ u9000_ l0) (h : laws_markHullS.f k l0 a1 = some (r1, r2)) :
    Calls Try.prog 48 #[u9000_, .int .i64 a1] w fun e w' => e = .returned (.int .i64 r1) ∧ Kd.R k73 73 w' w0.heap.size (fun k_ => (P0_ k_ ∨ w.heap.size ≤ k_)) u9000_ r2 ∧ Below w0.heap.size w0 w' ∧ Kept w w' (fun k_ => P0_ k_) := by
  have HO0 := Aside0.mk (show Kd.R k73 73 w w0.heap.size (fun k_ => (P0_ k_ ∨ w.heap.size ≤ k_)) u9000_ l0 from Kd.R_mono ho0 (fun k_ hk => (.inl hk)))
  have HK := Aside0.mk (Kept.refl w (fun k_ => P0_ k_))
  have HW0 := Aside0.mk hB.size
  have HB := Aside0.mk hB
  clear hB
  have H : (laws_markHullS.l0 k l0 a1 0) = some (r1, r2) := h
  clear h
  have H' := Aside0.mk H
  clear H
  go_enter Try.func48, Try.ntmps48
  go_wp2
  go_loopg [1, 5] k (fun kq v1 v5 w' => ∃ (x0_1 : List (S73)) (x1_1 : Int) (x5_1 : Int), v1 = .int .i64 x1_1 ∧ v5 = .int .i64 x5_1 ∧ Aside0 (laws_markHullS.l0 kq x0_1 x1_1 x5_1 = some (r1, r2)) ∧ Aside0 (kq ≤ k) ∧ Aside0 (Kd.R k73 73 w' w0.heap.size (fun k_ => (P0_ k_ ∨ w.heap.size ≤ k_)) u9000_ x0_1) ∧ Aside0 (Kept w w' (fun k_ => P0_ k_)) ∧ Aside0 (Below w0.heap.size w0 w'))
  case atStart => exact ⟨(l0), (a1), (0), (by first | rfl | (simp; done) | (simp [*]; done)), (by first | rfl | (simp; done) | (simp [*]; done)), H', ⟨Nat.le_refl _⟩, ⟨by (with_reducible repeat (first | apply Kd.R_alloc | apply Kd.R_drewN | apply Kd.R_drew)); exact HO0.out⟩, ⟨by repeat (first | (with_reducible first | exact HK.out | apply Kept.alloc | apply Kept.drewN | apply Kept.drew) | exact HK.out)⟩, ⟨by repeat (first | (with_reducible first | exact HB.out | apply below_alloc | apply pw_below_drewN | apply below_drew1) | exact HB.out)⟩⟩
  case round =>
    clear H'
    try clear p2
    obtain ⟨x0_1, x1_1, x5_1, rfl, rfl, HA, HK1, HO_0, HK, HB⟩ := hrel
    cases gk with
    | zero => exact absurd HA.out (by simp [laws_markHullS.l0])
    | succ k1 =>
      have H := HA.out
      clear HA
      simp only [laws_markHullS.l0] at H
      by_cases c3 : x5_1 < (x0_1.length : Int)
      · rw [if_pos c3] at H
        have c3b0 : decide (x5_1 < (x0_1.length : Int)) = true := decide_eq_true c3
        clear c3
        by_cases c4 : 0 ≤ x5_1
        · rw [if_pos c4] at H
          have c4b0 : decide (0 ≤ x5_1) = true := decide_eq_true c4
          clear c4
          obtain ⟨y245, hy245⟩ : ∃ y_ : List (S73), y_ = (x0_1.set (x5_1 : Int).toNat (⟨IntKind.i8.wrap (x1_1), (rd_T73 x0_1 x5_1).f1, (rd_T73 x0_1 x5_1).f2⟩ : S73)) := ⟨_, rfl⟩
          replace H : ((some (y245.set (x5_1 : Int).toNat (⟨(rd_T73 y245 x5_1).f0, IntKind.i8.wrap (wrap64 (x1_1 + 1)), (rd_T73 y245 x5_1).f2⟩ : S73) : List (S73))).bind fun y246 => (laws_markHullS.l0 k1 (y246.set (x5_1 : Int).toNat (⟨(rd_T73 y246 x5_1).f0, (rd_T73 y246 x5_1).f1, IntKind.i8.wrap (wrap64 ((wrap64 (x1_1 + 1)) + 1))⟩ : S73)) (wrap64 ((wrap64 ((wrap64 (x1_1 + 1)) + 1)) + 1)) (wrap64 (x5_1 + 1)))) = some (r1, r2) := by first | (rw [hy245]; with_reducible exact H) | (have H2_ := (Option.bind_some _ _).symm.trans H; rw [hy245]; with_reducible exact H2_) | (have H2_ := (Option.bind_some _ _).symm.trans H; with_reducible exact H2_) | with_reducible exact H | (rw [hy245]; exact H) | exact H
          have Ny245 := Aside0.mk hy245
          clear hy245
          obtain ⟨y246, hy246⟩ : ∃ y_ : List (S73), y_ = (y245.set (x5_1 : Int).toNat (⟨(rd_T73 y245 x5_1).f0, IntKind.i8.wrap (wrap64 (x1_1 + 1)), (rd_T73 y245 x5_1).f2⟩ : S73)) := ⟨_, rfl⟩
          replace H : (laws_markHullS.l0 k1 (y246.set (x5_1 : Int).toNat (⟨(rd_T73 y246 x5_1).f0, (rd_T73 y246 x5_1).f1, IntKind.i8.wrap (wrap64 ((wrap64 (x1_1 + 1)) + 1))⟩ : S73)) (wrap64 ((wrap64 ((wrap64 (x1_1 + 1)) + 1)) + 1)) (wrap64 (x5_1 + 1))) = some (r1, r2) := by first | (rw [hy246]; with_reducible exact H) | (have H2_ := (Option.bind_some _ _).symm.trans H; rw [hy246]; with_reducible exact H2_) | (have H2_ := (Option.bind_some _ _).symm.trans H; with_reducible exact H2_) | with_reducible exact H | (rw [hy246]; exact H) | exact H
          have Ny246 := Aside0.mk hy246
          clear hy246
          obtain ⟨y247, hy247⟩ : ∃ y_ : List (S73), y_ = (y246.set (x5_1 : Int).toNat (⟨(rd_T73 y246 x5_1).f0, (rd_T73 y246 x5_1).f1, IntKind.i8.wrap (wrap64 ((wrap64 (x1_1 + 1)) + 1))⟩ : S73)) := ⟨_, rfl⟩
          replace H : (laws_markHullS.l0 k1 y247 (wrap64 ((wrap64 ((wrap64 (x1_1 + 1)) + 1)) + 1)) (wrap64 (x5_1 + 1))) = some (r1, r2) := by first | (rw [hy247]; with_reducible exact H) | (have H2_ := (Option.bind_some _ _).symm.trans H; rw [hy247]; with_reducible exact H2_) | (have H2_ := (Option.bind_some _ _).symm.trans H; with_reducible exact H2_) | with_reducible exact H | (rw [hy247]; exact H) | exact H
          have Ny247 := Aside0.mk hy247
          clear hy247
          have H' := Aside0.mk H
          clear H
          obtain ⟨Ao8, co8, eo8⟩ := Kd.R_slice HO_0.out
          subst eo8
          have p5 : 0 ≤ (x5_1 : Int) := of_decide_eq_true (by first | (with_reducible assumption) | assumption)
          have q5 : (x5_1 : Int) < ((x0_1.length : Int) : Int) := of_decide_eq_true (by first | (with_reducible assumption) | assumption)
          obtain ⟨go5, co5, eo5, gb5, gl5, cl5, HG5⟩ := Kd.R_form HO_0.out (by omega)
          (first | cases eo5 | (injection eo5 with ea_ en_ ec_; (first | subst ea_ | (injection ea_ with ea_; subst ea_)); subst ec_; clear en_))
          have GB5 := Aside0.mk gb5
          have GG5 := Aside0.mk HG5
          clear gb5 gl5 HG5
          have HMgo5 := Aside0.mk (show (P0_ go5 ∨ w.heap.size ≤ go5) from (HO_0.out.1 _ rfl))
          obtain ⟨ce5, hcl5, hM5, hcc5, hfr5⟩ := Kd.R_elem HO_0.out z73 (x5_1 : Int) p5 q5
          obtain rfl := k73_openM hM5
          have hx5_0 : wr.cell? ⟨go5, (x5_1 : Int).toNat * 3, none⟩ = some (.int .i8 ((rd_T73 x0_1 x5_1).f0)) := hcc5 0 _ rfl
          have hx5_1 : wr.cell? ⟨go5, (x5_1 : Int).toNat * 3 + 1, none⟩ = some (.int .i8 ((rd_T73 x0_1 x5_1).f1)) := hcc5 1 _ rfl
          have hx5_2 : wr.cell? ⟨go5, (x5_1 : Int).toNat * 3 + 2, none⟩ = some (.int .i8 ((rd_T73 x0_1 x5_1).f2)) := hcc5 2 _ rfl
          have hf5_0 : wr.frozen? ⟨go5, (x5_1 : Int).toNat * 3, none⟩ = false := hfr5 0
          have hf5_1 : wr.frozen? ⟨go5, (x5_1 : Int).toNat * 3 + 1, none⟩ = false := hfr5 1
          have hf5_2 : wr.frozen? ⟨go5, (x5_1 : Int).toNat * 3 + 2, none⟩ = false := hfr5 2
          clear hcl5 hcc5 hfr5 hM5
          replace p5 := eq_true p5
          replace q5 := eq_true q5
          have HX9 := Aside0.mk (show Kd.R k73 73 wr w0.heap.size (fun k_ => (P0_ k_ ∨ w.heap.size ≤ k_)) (.slice (some ⟨go5, 0, none⟩) x0_1.length co8) x0_1 from (by (with_reducible repeat (first | apply Kd.R_alloc | apply Kd.R_drewN | apply Kd.R_drew)); exact HO_0.out))
          obtain ⟨ce9, hcl9, hM9, hcc9, hfr9⟩ := Kd.R_elem HX9.out z73 (x5_1 : Int) (of_decide_eq_true (by first | (with_reducible assumption) | assumption)) (by have h_ : (x5_1 : Int) < ((x0_1.length : Int) : Int) := of_decide_eq_true (by first | (with_reducible assumption) | assumption); first | exact h_ | (have e_ := (Kd.R_reads' HO_0.out).1; omega) | simpa using h_)
          obtain rfl := k73_openM hM9
          have HP9 := Kd.R_seg HX9.out (x5_1 : Int) (of_decide_eq_true (by first | (with_reducible assumption) | assumption)) (by have h_ : (x5_1 : Int) < ((x0_1.length : Int) : Int) := of_decide_eq_true (by first | (with_reducible assumption) | assumption); first | exact h_ | (have e_ := (Kd.R_reads' HO_0.out).1; omega) | simpa using h_) (seg := [.int .i8 (IntKind.i8.wrap (x1_1))]) (j := 0) hcl9 hcc9 (show 1 ≤ 3 from by decide) (x' := (⟨IntKind.i8.wrap (x1_1), (rd_T73 x0_1 x5_1).f1, (rd_T73 x0_1 x5_1).f2⟩ : S73)) (k73_mkM _ _ _ (⟨IntKind.i8.wrap (x1_1), (rd_T73 x0_1 x5_1).f1, (rd_T73 x0_1 x5_1).f2⟩ : S73) ) (fun _ hk => hk)
          have hx9_0 := hcc9 0 _ rfl
          (try simp only [show (k73).sz = 3 from rfl, Nat.mul_one, Nat.add_zero] at hx9_0)
          have hf9_0 := hfr9 0
          (try simp only [show (k73).sz = 3 from rfl, Nat.mul_one, Nat.add_zero] at hf9_0)
          clear hcl9 hcc9 hfr9 hM9
          go_wp2_with (first | ((with_reducible refine gate_store (t := 62) (p := 17) rfl ?_); refine store_event (t := 62) (p := 17) (v := ?vo_w10) (w1 := (wr.setCell ⟨go5, (x5_1 : Int).toNat * 3, none⟩ (.int .i8 (IntKind.i8.wrap (x1_1))))) ?hg ?ho ?hn ?hr ?_; (case ho => rfl); (case hg => rfl); (case hn => rfl); (case hr => first | (go_simp; done) | (go_simp; rfl)); intro w10 hw; have hg : wr.grownBy w10 (some go5) := (by rw [hw]; exact HP9.2); have hp_ : Kd.R k73 73 w10 w0.heap.size (fun k_ => (P0_ k_ ∨ w.heap.size ≤ k_)) (.slice (some ⟨go5, 0, none⟩) x0_1.length co8) y245 := (by rw [hw, Ny245.out]; exact HP9.1); clear HP9; have n0_ := Aside0.mk (hp_); have n1_ := Aside0.mk ((by rw [hw]; exact below_set (HB.out) GB5.out : Below w0.heap.size w0 w10)); have n2_ := Aside0.mk (Kept.of_grown (S := (fun k_ => P0_ k_)) hg (by repeat (first | (with_reducible first | exact HK.out | apply Kept.alloc | apply Kept.drewN | apply Kept.drew) | exact HK.out)) (fun k_ e_ => (HO_0.out.1 k_ e_))); clear HO_0; clear HB; clear HK; have HO_0 := n0_; have HB := n1_; have HK := n2_; clear n0_ n1_ n2_; clear hg hw hp_; have p6 : 0 ≤ (x5_1 : Int) := of_decide_eq_true (by first | (with_reducible assumption) | assumption); have q6 : (x5_1 : Int) < ((x0_1.length : Int) : Int) := of_decide_eq_true (by first | (with_reducible assumption) | assumption); obtain ⟨ce6, hcl6, hM6, hcc6, hfr6⟩ := Kd.R_elem HO_0.out z73 (x5_1 : Int) p6 q6; obtain rfl := k73_openM hM6; have hx6_0 : w10.cell? ⟨go5, (x5_1 : Int).toNat * 3, none⟩ = some (.int .i8 ((rd_T73 y245 x5_1).f0)) := hcc6 0 _ rfl; have hx6_1 : w10.cell? ⟨go5, (x5_1 : Int).toNat * 3 + 1, none⟩ = some (.int .i8 ((rd_T73 y245 x5_1).f1)) := hcc6 1 _ rfl; have hx6_2 : w10.cell? ⟨go5, (x5_1 : Int).toNat * 3 + 2, none⟩ = some (.int .i8 ((rd_T73 y245 x5_1).f2)) := hcc6 2 _ rfl; have hf6_0 : w10.frozen? ⟨go5, (x5_1 : Int).toNat * 3, none⟩ = false := hfr6 0; have hf6_1 : w10.frozen? ⟨go5, (x5_1 : Int).toNat * 3 + 1, none⟩ = false := hfr6 1; have hf6_2 : w10.frozen? ⟨go5, (x5_1 : Int).toNat * 3 + 2, none⟩ = false := hfr6 2; clear hcl6 hcc6 hfr6 hM6; replace p6 := eq_true p6; replace q6 := eq_true q6; have HX11 := Aside0.mk (show Kd.R k73 73 w10 w0.heap.size (fun k_ => (P0_ k_ ∨ w.heap.size ≤ k_)) (.slice (some ⟨go5, 0, none⟩) x0_1.length co8) y245 from (by (with_reducible repeat (first | apply Kd.R_alloc | apply Kd.R_drewN | apply Kd.R_drew)); exact HO_0.out)); obtain ⟨ce11, hcl11, hM11, hcc11, hfr11⟩ := Kd.R_elem HX11.out z73 (x5_1 : Int) (of_decide_eq_true (by first | (with_reducible assumption) | assumption)) (by have h_ : (x5_1 : Int) < ((x0_1.length : Int) : Int) := of_decide_eq_true (by first | (with_reducible assumption) | assumption); first | exact h_ | (have e_ := (Kd.R_reads' HO_0.out).1; omega) | simpa using h_); obtain rfl := k73_openM hM11; have HP11 := Kd.R_seg HX11.out (x5_1 : Int) (of_decide_eq_true (by first | (with_reducible assumption) | assumption)) (by have h_ : (x5_1 : Int) < ((x0_1.length : Int) : Int) := of_decide_eq_true (by first | (with_reducible assumption) | assumption); first | exact h_ | (have e_ := (Kd.R_reads' HO_0.out).1; omega) | simpa using h_) (seg := [.int .i8 (IntKind.i8.wrap (wrap64 (x1_1 + 1)))]) (j := 1) hcl11 hcc11 (show 2 ≤ 3 from by decide) (x' := (⟨(rd_T73 y245 x5_1).f0, IntKind.i8.wrap (wrap64 (x1_1 + 1)), (rd_T73 y245 x5_1).f2⟩ : S73)) (k73_mkM _ _ _ (⟨(rd_T73 y245 x5_1).f0, IntKind.i8.wrap (wrap64 (x1_1 + 1)), (rd_T73 y245 x5_1).f2⟩ : S73) ) (fun _ hk => hk); have hx11_1 := hcc11 1 _ rfl; (try simp only [show (k73).sz = 3 from rfl, Nat.mul_one, Nat.add_zero] at hx11_1); have hf11_1 := hfr11 1; (try simp only [show (k73).sz = 3 from rfl, Nat.mul_one, Nat.add_zero] at hf11_1); clear hcl11 hcc11 hfr11 hM11) | ((with_reducible refine gate_store (t := 62) (p := 25) rfl ?_); refine store_event (t := 62) (p := 25) (v := ?vo_w12) (w1 := (w10.setCell ⟨go5, (x5_1 : Int).toNat * 3 + 1, none⟩ (.int .i8 (IntKind.i8.wrap (wrap64 (x1_1 + 1)))))) ?hg ?ho ?hn ?hr ?_; (case ho => rfl); (case hg => rfl); (case hn => rfl); (case hr => first | (go_simp; done) | (go_simp; rfl)); intro w12 hw; have hg : w10.grownBy w12 (some go5) := (by rw [hw]; exact HP11.2); have hp_ : Kd.R k73 73 w12 w0.heap.size (fun k_ => (P0_ k_ ∨ w.heap.size ≤ k_)) (.slice (some ⟨go5, 0, none⟩) x0_1.length co8) y246 := (by rw [hw, Ny246.out]; exact HP11.1); clear HP11; have n0_ := Aside0.mk (hp_); have n1_ := Aside0.mk ((by rw [hw]; exact below_set (HB.out) GB5.out : Below w0.heap.size w0 w12)); have n2_ := Aside0.mk (Kept.of_grown (S := (fun k_ => P0_ k_)) hg (by repeat (first | (with_reducible first | exact HK.out | apply Kept.alloc | apply Kept.drewN | apply Kept.drew) | exact HK.out)) (fun k_ e_ => (HO_0.out.1 k_ e_))); clear HO_0; clear HB; clear HK; have HO_0 := n0_; have HB := n1_; have HK := n2_; clear n0_ n1_ n2_; clear hg hw hp_; have p7 : 0 ≤ (x5_1 : Int) := of_decide_eq_true (by first | (with_reducible assumption) | assumption); have q7 : (x5_1 : Int) < ((x0_1.length : Int) : Int) := of_decide_eq_true (by first | (with_reducible assumption) | assumption); obtain ⟨ce7, hcl7, hM7, hcc7, hfr7⟩ := Kd.R_elem HO_0.out z73 (x5_1 : Int) p7 q7; obtain rfl := k73_openM hM7; have hx7_0 : w12.cell? ⟨go5, (x5_1 : Int).toNat * 3, none⟩ = some (.int .i8 ((rd_T73 y246 x5_1).f0)) := hcc7 0 _ rfl; have hx7_1 : w12.cell? ⟨go5, (x5_1 : Int).toNat * 3 + 1, none⟩ = some (.int .i8 ((rd_T73 y246 x5_1).f1)) := hcc7 1 _ rfl; have hx7_2 : w12.cell? ⟨go5, (x5_1 : Int).toNat * 3 + 2, none⟩ = some (.int .i8 ((rd_T73 y246 x5_1).f2)) := hcc7 2 _ rfl; have hf7_0 : w12.frozen? ⟨go5, (x5_1 : Int).toNat * 3, none⟩ = false := hfr7 0; have hf7_1 : w12.frozen? ⟨go5, (x5_1 : Int).toNat * 3 + 1, none⟩ = false := hfr7 1; have hf7_2 : w12.frozen? ⟨go5, (x5_1 : Int).toNat * 3 + 2, none⟩ = false := hfr7 2; clear hcl7 hcc7 hfr7 hM7; replace p7 := eq_true p7; replace q7 := eq_true q7; have HX13 := Aside0.mk (show Kd.R k73 73 w12 w0.heap.size (fun k_ => (P0_ k_ ∨ w.heap.size ≤ k_)) (.slice (some ⟨go5, 0, none⟩) x0_1.length co8) y246 from (by (with_reducible repeat (first | apply Kd.R_alloc | apply Kd.R_drewN | apply Kd.R_drew)); exact HO_0.out)); obtain ⟨ce13, hcl13, hM13, hcc13, hfr13⟩ := Kd.R_elem HX13.out z73 (x5_1 : Int) (of_decide_eq_true (by first | (with_reducible assumption) | assumption)) (by have h_ : (x5_1 : Int) < ((x0_1.length : Int) : Int) := of_decide_eq_true (by first | (with_reducible assumption) | assumption); first | exact h_ | (have e_ := (Kd.R_reads' HO_0.out).1; omega) | simpa using h_); obtain rfl := k73_openM hM13; have HP13 := Kd.R_seg HX13.out (x5_1 : Int) (of_decide_eq_true (by first | (with_reducible assumption) | assumption)) (by have h_ : (x5_1 : Int) < ((x0_1.length : Int) : Int) := of_decide_eq_true (by first | (with_reducible assumption) | assumption); first | exact h_ | (have e_ := (Kd.R_reads' HO_0.out).1; omega) | simpa using h_) (seg := [.int .i8 (IntKind.i8.wrap (wrap64 ((wrap64 (x1_1 + 1)) + 1)))]) (j := 2) hcl13 hcc13 (show 3 ≤ 3 from by decide) (x' := (⟨(rd_T73 y246 x5_1).f0, (rd_T73 y246 x5_1).f1, IntKind.i8.wrap (wrap64 ((wrap64 (x1_1 + 1)) + 1))⟩ : S73)) (k73_mkM _ _ _ (⟨(rd_T73 y246 x5_1).f0, (rd_T73 y246 x5_1).f1, IntKind.i8.wrap (wrap64 ((wrap64 (x1_1 + 1)) + 1))⟩ : S73) ) (fun _ hk => hk); have hx13_2 := hcc13 2 _ rfl; (try simp only [show (k73).sz = 3 from rfl, Nat.mul_one, Nat.add_zero] at hx13_2); have hf13_2 := hfr13 2; (try simp only [show (k73).sz = 3 from rfl, Nat.mul_one, Nat.add_zero] at hf13_2); clear hcl13 hcc13 hfr13 hM13) | ((with_reducible refine gate_store (t := 62) (p := 33) rfl ?_); refine store_event (t := 62) (p := 33) (v := ?vo_w14) (w1 := (w12.setCell ⟨go5, (x5_1 : Int).toNat * 3 + 2, none⟩ (.int .i8 (IntKind.i8.wrap (wrap64 ((wrap64 (x1_1 + 1)) + 1)))))) ?hg ?ho ?hn ?hr ?_; (case ho => rfl); (case hg => rfl); (case hn => rfl); (case hr => first | (go_simp; done) | (go_simp; rfl)); intro w14 hw; have hg : w12.grownBy w14 (some go5) := (by rw [hw]; exact HP13.2); have hp_ : Kd.R k73 73 w14 w0.heap.size (fun k_ => (P0_ k_ ∨ w.heap.size ≤ k_)) (.slice (some ⟨go5, 0, none⟩) x0_1.length co8) y247 := (by rw [hw, Ny247.out]; exact HP13.1); clear HP13; have n0_ := Aside0.mk (hp_); have n1_ := Aside0.mk ((by rw [hw]; exact below_set (HB.out) GB5.out : Below w0.heap.size w0 w14)); have n2_ := Aside0.mk (Kept.of_grown (S := (fun k_ => P0_ k_)) hg (by repeat (first | (with_reducible first | exact HK.out | apply Kept.alloc | apply Kept.drewN | apply Kept.drew) | exact HK.out)) (fun k_ e_ => (HO_0.out.1 k_ e_))); clear HO_0; clear HB; clear HK; have HO_0 := n0_; have HB := n1_; have HK := n2_; clear n0_ n1_ n2_; clear hg hw hp_))
          go_roundg k1
          case measure => have := HK1.out; omega
          case rel => exact ⟨(y247), (wrap64 ((wrap64 ((wrap64 (x1_1 + 1)) + 1)) + 1)), (wrap64 (x5_1 + 1)), (by first | rfl | (simp; done) | (simp [*]; done)), (by first | rfl | (simp; done) | (simp [*]; done)), H', ⟨by have := HK1.out; omega⟩, ⟨by (with_reducible repeat (first | apply Kd.R_alloc | apply Kd.R_drewN | apply Kd.R_drew)); exact HO_0.out⟩, ⟨by repeat (first | (with_reducible first | exact HK.out | apply Kept.alloc | apply Kept.drewN | apply Kept.drew) | exact HK.out)⟩, ⟨by repeat (first | (with_reducible first | exact HB.out | apply below_alloc | apply pw_below_drewN | apply below_drew1) | exact HB.out)⟩⟩
        · rw [if_neg c4] at H
          exact absurd H (by simp)
      · rw [if_neg c3] at H
        have c3b0 : decide (x5_1 < (x0_1.length : Int)) = false := decide_eq_false c3
        clear c3
        simp only [Option.some.injEq, Prod.mk.injEq] at H
        obtain ⟨rfl, rfl⟩ := H
        obtain ⟨Ao15, co15, eo15⟩ := Kd.R_slice HO_0.out
        subst eo15
        go_wp2
        go_ret
        exact ⟨by first | rfl | (simp [errW_none, errW_some] <;> rfl) | (simp [*, errW_none, errW_some] <;> rfl), by (with_reducible repeat (first | apply Kd.R_alloc | apply Kd.R_drewN | apply Kd.R_drew)); exact HO_0.out, by repeat (first | (with_reducible first | exact HB.out | apply below_alloc | apply pw_below_drewN | apply below_drew1) | exact HB.out), by repeat (first | (with_reducible first | exact HK.out | apply Kept.alloc | apply Kept.drewN | apply Kept.drew) | exact HK.out)⟩

end Go.Proofs.Ytjcdgimldhodiaa.PFnExactLeastMoves
