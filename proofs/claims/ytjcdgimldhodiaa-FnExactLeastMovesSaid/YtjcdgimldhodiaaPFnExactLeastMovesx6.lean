/- Printed by this session's plus.py out of the translation, some functions' texts being this session's own. -/
import Derived.Test.YtjcdgimldhodiaaPFnExactLeastMovesx0
import Derived.Test.YtjcdgimldhodiaaPFnExactLeastMovesx5
namespace Go.Proofs.Ytjcdgimldhodiaa.PFnExactLeastMoves
open Go.RowKit Go.Proofs.YtjcdgimldhodiaaW.PrintWords Go.Proofs.YtjcdgimldhodiaaW.PrintLast Go.Proofs.YtjcdgimldhodiaaW.PrintMore
attribute [local go_sem] max2_int min2_int max_two min_two max_three min_three max_four min_four   -- for this text's walks alone
set_option linter.unusedVariables false
set_option linter.unusedSimpArgs false

/-! ### impl_isOrder: function 63: this session's own text -/
theorem of_drop {α : Type} {xs : List α} {p : Nat} {x : α} {rest : List α} (h : xs.drop p = x :: rest) : p < xs.length ∧ xs.drop (p + 1) = rest ∧ ∀ d, xs.getD ((p : Int)).toNat d = x := by
  have hp : p < xs.length := by
    rcases Nat.lt_or_ge p xs.length with h1 | h1
    · exact h1
    · rw [List.drop_eq_nil_of_le h1] at h; cases h
  rw [List.drop_eq_getElem_cons hp] at h
  injection h with h1 h2
  refine ⟨hp, h2, fun d => ?_⟩
  rw [Int.toNat_natCast, List.getD_eq_getElem?_getD, List.getElem?_eq_getElem hp]
  exact h1

theorem of_drop_nil {α : Type} {xs : List α} {p : Nat} (h : xs.drop p = []) : xs.length ≤ p := List.drop_eq_nil_iff.1 h

theorem step64 {p n : Nat} (h : p < n) (hn : n ≤ 1152921504606846976) : wrap64 ((p : Int) + 1) = ((p + 1 : Nat) : Int) := by
  unfold wrap64
  omega

theorem take_set_at {α : Type} (ys : List α) (p : Nat) (v : α) (h : p < ys.length) : (ys.set p v).take (p + 1) = ys.take p ++ [v] := by
  rw [List.take_succ_eq_append_getElem (by simpa using h), List.take_set_of_le (Nat.le_refl _)]
  simp

theorem i8_in {a : Int} (h : (Lit.int .i8 a).wf = true) : -128 ≤ a ∧ a ≤ 127 := by
  simp [Lit.wf, IntKind.min, IntKind.max, IntKind.signed, IntKind.bits] at h
  omega

theorem i64_in {a : Int} (h : (Lit.int .i64 a).wf = true) : -9223372036854775808 ≤ a ∧ a ≤ 9223372036854775807 := by
  simp [Lit.wf, IntKind.min, IntKind.max, IntKind.signed, IntKind.bits] at h
  omega

theorem w64_id {a : Int} (h : -9223372036854775808 ≤ a ∧ a ≤ 9223372036854775807) : wrap64 a = a := by
  unfold wrap64
  omega

theorem w8_cases (a : Int) : IntKind.i8.wrap a = if a % 256 ≥ 128 then a % 256 - 256 else a % 256 := by
  simp [IntKind.wrap, IntKind.signed, IntKind.bits]

theorem some_dec {p q : Prop} [Decidable p] [Decidable q] (h : p ↔ q) : some (decide p) = some (decide q) := by rw [decide_eq_decide.2 h]
theorem some_decF {q : Prop} [Decidable q] (h : ¬ q) : some false = some (decide q) := by rw [decide_eq_false h]
theorem some_decT {q : Prop} [Decidable q] (h : q) : some true = some (decide q) := by rw [decide_eq_true h]

theorem equal64_l0 (a b : List Int) (hl : a.length ≤ 1152921504606846976) (hab : a.length = b.length) : ∀ (rest rest' : List Int) (p k : Nat), a.drop p = rest → b.drop p = rest' → rest.length < k → slices_Equal_int64_int64.l0 k a b (a.length : Int) (p : Int) = some (decide (rest = rest')) := by
  intro rest
  induction rest with
  | nil =>
    intro rest' p k hd hd' hk
    obtain ⟨k, rfl⟩ : ∃ m, k = m + 1 := ⟨k - 1, by simp at hk; omega⟩
    have := of_drop_nil hd
    have hr : rest' = [] := by rw [← hd', List.drop_eq_nil_of_le (by omega)]
    simp only [slices_Equal_int64_int64.l0]
    rw [if_neg (by omega), hr]
    rfl
  | cons x rest ih =>
    intro rest' p k hd hd' hk
    simp only [List.length_cons] at hk
    obtain ⟨k, rfl⟩ : ∃ m, k = m + 1 := ⟨k - 1, by omega⟩
    obtain ⟨hp, hd2, hx⟩ := of_drop hd
    have hpb : p < b.length := by omega
    cases rest' with
    | nil => have := of_drop_nil hd'; omega
    | cons y rest' =>
      obtain ⟨_, hd2', hy⟩ := of_drop hd'
      simp only [slices_Equal_int64_int64.l0, rd, hx, hy]
      rw [if_pos (by omega), if_pos (by omega), if_pos (by omega), if_pos (by omega), step64 hp hl, ih rest' (p + 1) k hd2 hd2' (by omega)]
      by_cases e : x = y
      · rw [if_pos e, e]; simp
      · rw [if_neg e]; simp [e]
theorem equal64_is (a b : List Int) (hl : a.length ≤ 1152921504606846976) (hb : b.length ≤ 1152921504606846976) (k : Nat) (hk : a.length < k) : slices_Equal_int64_int64.f k a b = some (decide (a = b)) := by
  unfold slices_Equal_int64_int64.f
  by_cases h : a.length = b.length
  · rw [if_pos (by omega)]
    exact equal64_l0 a b hl h a b 0 k rfl rfl hk
  · rw [if_neg (by omega), decide_eq_false (fun e => h (by rw [e]))]

/-- 0, 1, .. below n. -/
def cntI (n : Nat) : List Int := (List.range n).map fun (i : Nat) => (i : Int)
theorem cntI_length (n : Nat) : (cntI n).length = n := by simp [cntI]
theorem perm_of_sub : ∀ (r s : List Int), r.Nodup → (∀ x ∈ r, x ∈ s) → s.length ≤ r.length → r.Perm s
  | [], s, _, _, hl => by
    have : s = [] := List.length_eq_zero_iff.1 (by simpa using hl)
    rw [this]
  | x :: r, s, hn, hs, hl => by
    obtain ⟨h1, h2⟩ := List.nodup_cons.1 hn
    have hx := hs x List.mem_cons_self
    have hle := List.length_erase_of_mem hx
    have ih := perm_of_sub r (s.erase x) h2 (fun y hy => (List.mem_erase_of_ne (fun e => by rw [e] at hy; exact h1 hy)).2 (hs y (List.mem_cons_of_mem _ hy))) (by rw [hle]; simp at hl; omega)
    exact (List.Perm.cons x ih).trans (List.perm_cons_erase hx).symm
theorem cntI_mem {n : Nat} {x : Int} : x ∈ cntI n ↔ 0 ≤ x ∧ x < n := by
  unfold cntI
  rw [List.mem_map]
  constructor
  · intro ⟨i, hi, e⟩
    have := List.mem_range.1 hi
    omega
  · intro h
    exact ⟨x.toNat, List.mem_range.2 (by omega), by omega⟩
theorem cntI_lt (n : Nat) : (cntI n).Pairwise (fun a b => a < b) := by
  unfold cntI
  rw [List.pairwise_map]
  exact List.pairwise_lt_range.imp (fun h => by omega)
theorem cntI_nodup (n : Nat) : (cntI n).Nodup := (cntI_lt n).imp (fun h => by omega)

theorem counting_l0 (n : Nat) (hn : n ≤ 1048576) : ∀ (m i k : Nat), i + m = n → m < k → impl_counting.l0 k (cntI i) (n : Int) (i : Int) = some (cntI n) := by
  intro m
  induction m with
  | zero =>
    intro i k hi hk
    obtain ⟨k, rfl⟩ : ∃ m, k = m + 1 := ⟨k - 1, by omega⟩
    simp only [impl_counting.l0]
    rw [if_neg (by omega), show i = n by omega]
  | succ m ih =>
    intro i k hi hk
    obtain ⟨k, rfl⟩ : ∃ m, k = m + 1 := ⟨k - 1, by omega⟩
    have hc : cntI i ++ [(i : Int)] = cntI (i + 1) := by simp [cntI, List.range_succ]
    simp only [impl_counting.l0]
    rw [if_pos (by omega), if_pos (by rw [cntI_length]; omega), step64 (show i < n by omega) (by omega), hc, ih (i + 1) k (by omega) (by omega)]
theorem counting_is (n : Nat) (hn : n ≤ 1048576) (k : Nat) (hk : n < k) : impl_counting.f k (n : Int) = some (cntI n) := by
  unfold impl_counting.f
  exact counting_l0 n hn n 0 k (by omega) hk

def impl_isOrder.f (a0 : Int) (l1 : List Int) : Option Bool := if 0 ≤ a0 ∧ a0 ≤ 1048576 ∧ l1.length < 17592186044416 then some (decide (sort64 l1 = cntI a0.toNat)) else none
set_option maxHeartbeats 2000000 in
set_option maxRecDepth 100000 in
theorem impl_isOrder.calls (a0 : Int) (A1 : Option Addr) (c1 : Nat) (l1 : List Int) (r : Bool) (w : World) (hr1 : Kd.C (Kd.int .i64) w A1 l1.length l1) (hc1 : l1.length ≤ c1) (h : impl_isOrder.f a0 l1 = some r) :
    Calls Try.prog 63 #[.int .i64 a0, .slice A1 l1.length c1] w fun e w' => e = .returned (.bool r) ∧ Below w.heap.size w w' := by
  unfold impl_isOrder.f at h
  by_cases hh : 0 ≤ a0 ∧ a0 ≤ 1048576 ∧ l1.length < 17592186044416
  · rw [if_pos hh] at h
    have HE := Aside0.mk (Option.some.inj h)
    have hlen := sort64_length l1
    have hcl := Aside0.mk (slices_Clone_int64_int64.calls A1 c1 l1 l1 w hr1 hc1 (by unfold slices_Clone_int64_int64.f; rw [if_pos hh.2.2]))
    have hso : Aside0 (∀ W B A c, Kd.R (Kd.int .i64) 2 W B (fun _ => True) (.slice A l1.length c) l1 → Calls Try.prog 76 #[.slice A l1.length c] W fun e' w' => e' = .returned (.tuple #[]) ∧ Kd.R (Kd.int .i64) 2 w' B (fun _ => True) (.slice A l1.length c) (sort64 l1) ∧ Below B W w') := ⟨fun W B A c hR => slices_Sort_int64_int64.calls hR (by omega)⟩
    have hco : Aside0 (∀ W, Calls Try.prog 65 #[.int .i64 a0] W fun e w' => ∃ v0_ : Value, e = .returned (v0_) ∧ Kd.R (Kd.int .i64) 2 w' W.heap.size (fun _ => True) v0_ (cntI a0.toNat) ∧ Below W.heap.size W w') := ⟨fun W => impl_counting.calls (a0.toNat + 1) a0 _ W (by
      have := counting_is a0.toNat (by omega) (a0.toNat + 1) (by omega)
      rw [show ((a0.toNat : Nat) : Int) = a0 by omega] at this
      exact this)⟩
    have heq : Aside0 (∀ W A c A' c', Kd.C (Kd.int .i64) W A (sort64 l1).length (sort64 l1) → (sort64 l1).length ≤ c → Kd.C (Kd.int .i64) W A' (cntI a0.toNat).length (cntI a0.toNat) → (cntI a0.toNat).length ≤ c' → Calls Try.prog 90 #[.slice A l1.length c, .slice A' (cntI a0.toNat).length c'] W fun e w' => e = .returned (.bool (decide (sort64 l1 = cntI a0.toNat))) ∧ Drawn0 W w') := ⟨fun W A c A' c' h1 h2 h3 h4 => by
      have := slices_Equal_int64_int64.calls (l1.length + 1) A c (sort64 l1) A' c' (cntI a0.toNat) _ W h1 h2 h3 h4 (equal64_is _ _ (by omega) (by rw [cntI_length]; omega) _ (by omega))
      rw [hlen] at this
      exact this⟩
    clear hh hr1 hc1 h hlen
    go_enter Try.func63, Try.ntmps63
    go_wp2_with (first | (go_at_call 75; refine hcl.out.mono ?_; rintro e w1 ⟨v, rfl, hv, hb1⟩; obtain ⟨A2, c2, rfl, hc2, hr2⟩ := Kd.R_reads hv; have HV := Aside0.mk hv; have HB1 := Aside0.mk hb1; clear hv hb1 hc2 hr2) | (go_at_call 76; refine (hso.out _ _ _ _ HV.out).mono ?_; rintro e w2 ⟨rfl, hv2, hb2⟩; have HV2 := Aside0.mk hv2; have HB2 := Aside0.mk (HB1.out.trans hb2); clear hv2 hb2) | (go_at_call 65; refine (hco.out _).mono ?_; rintro e w3 ⟨v3, rfl, hv3, hb3⟩; obtain ⟨A4, c4, rfl, hc4, hr4⟩ := Kd.R_reads hv3; have HV3 := Aside0.mk (And.intro hc4 hr4); have HV4 := Aside0.mk (Kd.R_reads' (Kd.R_below HV2.out hb3)); have HB3 := Aside0.mk (HB2.out.trans (hb3.mono HB2.out.size)); clear hv3 hb3 hc4 hr4) | (go_at_call 90; refine (heq.out _ _ _ _ _ HV4.out.2.2 (by have h1 := HV4.out.1; have h2 := HV4.out.2.1; omega) HV3.out.2 HV3.out.1).mono ?_; rintro e w4 ⟨rfl, hd⟩; have HD := Aside0.mk hd; clear hd))
    go_ret
    exact ⟨by rw [← HE.out]; first | rfl | (simp; done), HB3.out.trans (HD.out.below.mono HB3.out.size)⟩
  · rw [if_neg hh] at h
    cases h

/-! ### slices_Index_int64_int64: function 91 -/
def slices_Index_int64_int64.l0 : Nat → List Int → Int → Int → Int → Option (Int)
  | 0, _, _, _, _ => none
  | k + 1, x0, x1, x7, x8 => if x8 < x7 then (if 0 ≤ x8 then (if x8 < (x0.length : Int) then (if x1 = (rd x0 x8) then (some x8) else (slices_Index_int64_int64.l0 k x0 x1 x7 (wrap64 (x8 + 1)))) else (none)) else (none)) else (some (-1))
def slices_Index_int64_int64.f (k : Nat) (l0 : List Int) (a1 : Int) : Option (Int) := slices_Index_int64_int64.l0 k l0 a1 (l0.length : Int) 0
theorem slices_Index_int64_int64.mono_l : ∀ k, (∀ y0 y1 y2 y3, LeO (slices_Index_int64_int64.l0 k y0 y1 y2 y3) (slices_Index_int64_int64.l0 (k + 1) y0 y1 y2 y3))
  | 0 => fun _ _ _ _ r h => by simp [slices_Index_int64_int64.l0] at h
  | k + 1 => by
    have ih0 := slices_Index_int64_int64.mono_l k
    · intro y0 y1 y2 y3
      unfold slices_Index_int64_int64.l0
      repeat' first
      | (with_reducible exact ih0 _ _ _ _)
      | (with_reducible exact LeO.refl _)
      | (with_reducible exact LeO.none _)
      | (with_reducible refine LeO.ite ?_ ?_)
      | (with_reducible refine LeO.bind ?_ (fun _ => ?_))
      | exact ih0 _ _ _ _
      | exact LeO.none _
      | refine LeO.ite ?_ ?_
      | refine LeO.bind ?_ (fun _ => ?_)
theorem slices_Index_int64_int64.mono : ∀ a0 a1 k, LeO (slices_Index_int64_int64.f k a0 a1) (slices_Index_int64_int64.f (k + 1) a0 a1) := by
  intro a0 a1 k
  have ih0 := slices_Index_int64_int64.mono_l k
  unfold slices_Index_int64_int64.f
  repeat' first
      | (with_reducible exact ih0 _ _ _ _)
      | (with_reducible exact LeO.refl _)
      | (with_reducible exact LeO.none _)
      | (with_reducible refine LeO.ite ?_ ?_)
      | (with_reducible refine LeO.bind ?_ (fun _ => ?_))
      | exact ih0 _ _ _ _
      | exact LeO.none _
      | refine LeO.ite ?_ ?_
      | refine LeO.bind ?_ (fun _ => ?_)
set_option maxHeartbeats 8000000 in
set_option maxRecDepth 100000 in
theorem slices_Index_int64_int64.calls (k : Nat) (A0 : Option Addr) (c0 : Nat) (l0 : List Int) (a1 : Int) (r : Int) (w : World) (hr0 : Kd.C (Kd.int .i64) w A0 l0.length l0) (hc0 : l0.length ≤ c0) (h : slices_Index_int64_int64.f k l0 a1 = some r) :
    Calls Try.prog 91 #[.slice A0 l0.length c0, .int .i64 a1] w fun e w' => e = .returned (.int .i64 r) ∧ Drawn0 w w' := by
  have HR0 := Aside0.mk hr0
  have HC0 := Aside0.mk hc0
  clear hr0 hc0
  have H : (slices_Index_int64_int64.l0 k l0 a1 (l0.length : Int) 0) = some r := h
  clear h
  have H' := Aside0.mk H
  clear H
  go_enter Try.func91, Try.ntmps91
  go_wp2
  go_loopg [8] k (fun kq v8 w' => ∃ (x8_1 : Int), v8 = .int .i64 x8_1 ∧ Aside0 (slices_Index_int64_int64.l0 kq l0 a1 (l0.length : Int) x8_1 = some r) ∧ Aside0 (kq ≤ k) ∧ Drawn0 w w')
  case atStart => exact ⟨(0), (by first | rfl | (simp; done) | (simp [*]; done)), H', ⟨Nat.le_refl _⟩, by repeat (first | exact Drawn0.refl _ | apply Drawn0.step)⟩
  case round =>
    clear H'
    try clear p2
    obtain ⟨x8_1, rfl, HA, HK1, ⟨m1, rfl⟩⟩ := hrel
    cases gk with
    | zero => exact absurd HA.out (by simp [slices_Index_int64_int64.l0])
    | succ k1 =>
      have H := HA.out
      clear HA
      simp only [slices_Index_int64_int64.l0] at H
      by_cases c3 : x8_1 < (l0.length : Int)
      · rw [if_pos c3] at H
        have c3b0 : decide (x8_1 < (l0.length : Int)) = true := decide_eq_true c3
        clear c3
        by_cases c4 : 0 ≤ x8_1
        · rw [if_pos c4] at H
          have c4b0 : decide (0 ≤ x8_1) = true := decide_eq_true c4
          clear c4
          by_cases c5 : x8_1 < (l0.length : Int)
          · rw [if_pos c5] at H
            have c5b0 : decide (x8_1 < (l0.length : Int)) = true := decide_eq_true c5
            clear c5
            by_cases c6 : a1 = (rd l0 x8_1)
            · rw [if_pos c6] at H
              have c6b0 : (a1 == (rd l0 x8_1)) = true := beq_iff_eq.mpr c6
              have c6b1 : (a1 != (rd l0 x8_1)) = false := bne_eq_false_iff_eq.mpr c6
              clear c6
              obtain rfl := Option.some.inj H
              have p211 : 0 ≤ (x8_1 : Int) := of_decide_eq_true (by first | (with_reducible assumption) | assumption)
              have q211 : x8_1 < (l0.length : Int) := of_decide_eq_true (by first | (with_reducible assumption) | assumption)
              obtain ⟨ad211, e211, hx211_0⟩ := Kd.at_int HR0.out x8_1 p211 q211
              cases e211
              replace p211 := eq_true p211
              replace q211 := eq_true q211
              go_wp2
              go_ret
              exact ⟨by first | rfl | (simp; done) | (simp [*]; done), by repeat (first | exact Drawn0.refl _ | apply Drawn0.step)⟩
            · rw [if_neg c6] at H
              have c6b0 : (a1 == (rd l0 x8_1)) = false := beq_eq_false_iff_ne.mpr c6
              have c6b1 : (a1 != (rd l0 x8_1)) = true := bne_iff_ne.mpr c6
              have H' := Aside0.mk H
              clear H
              have p211 : 0 ≤ (x8_1 : Int) := of_decide_eq_true (by first | (with_reducible assumption) | assumption)
              have q211 : x8_1 < (l0.length : Int) := of_decide_eq_true (by first | (with_reducible assumption) | assumption)
              obtain ⟨ad211, e211, hx211_0⟩ := Kd.at_int HR0.out x8_1 p211 q211
              cases e211
              replace p211 := eq_true p211
              replace q211 := eq_true q211
              go_wp2
              go_roundg k1
              case measure => have := HK1.out; omega
              case rel => exact ⟨(wrap64 (x8_1 + 1)), (by first | rfl | (simp; done) | (simp [*]; done)), H', ⟨by have := HK1.out; omega⟩, by repeat (first | exact Drawn0.refl _ | apply Drawn0.step)⟩
          · rw [if_neg c5] at H
            exact absurd H (by simp)
        · rw [if_neg c4] at H
          exact absurd H (by simp)
      · rw [if_neg c3] at H
        have c3b0 : decide (x8_1 < (l0.length : Int)) = false := decide_eq_false c3
        clear c3
        obtain rfl := Option.some.inj H
        go_wp2
        go_ret
        exact ⟨by first | rfl | (simp; done) | (simp [*]; done), by repeat (first | exact Drawn0.refl _ | apply Drawn0.step)⟩

/-! ### impl_moves: function 64 -/
def impl_moves.l0 : Nat → Int → List Int → List Int → Int → Int → Option (Int)
  | 0, _, _, _, _, _ => none
  | k + 1, x5, x6, x12, x13, x14 => if x14 < x13 then (if 0 ≤ x14 then (if x14 < (x12.length : Int) then ((slices_Index_int64_int64.f k x6 (rd x12 x14)).bind fun t216 => (if 0 ≤ t216 then (if t216 ≤ (x6.length : Int) then ((slices_Clone_int64_int64.f (x6.take (t216 : Int).toNat)).bind fun t221 => (if 0 ≤ (wrap64 (t216 + 1)) then (if (wrap64 (t216 + 1)) ≤ (x6.length : Int) then ((some (x6.drop ((wrap64 (t216 + 1)) : Int).toNat : List Int)).bind fun y224 => (if t221.length + y224.length < 17592186044416 then (impl_moves.l0 k (wrap64 (x5 + (wrap64 ((wrap64 ((x6.length : Int) - 1)) - t216)))) (t221 ++ y224) x12 x13 (wrap64 (x14 + 1))) else (none))) else (none)) else (none))) else (none)) else (none))) else (none)) else (none)) else (some x5)
def impl_moves.f (k : Nat) (l0 : List Int) (l1 : List Int) : Option (Int) := (slices_Clone_int64_int64.f l0).bind fun t212 => (impl_moves.l0 k 0 t212 l1 (l1.length : Int) 0)
theorem impl_moves.mono_l : ∀ k, (∀ y0 y1 y2 y3 y4, LeO (impl_moves.l0 k y0 y1 y2 y3 y4) (impl_moves.l0 (k + 1) y0 y1 y2 y3 y4))
  | 0 => fun _ _ _ _ _ r h => by simp [impl_moves.l0] at h
  | k + 1 => by
    have ih0 := impl_moves.mono_l k
    · intro y0 y1 y2 y3 y4
      unfold impl_moves.l0
      repeat' first
      | (with_reducible exact ih0 _ _ _ _ _)
      | (with_reducible exact slices_Index_int64_int64.mono _ _ _)
      | (with_reducible exact LeO.refl _)
      | (with_reducible exact LeO.none _)
      | (with_reducible refine LeO.ite ?_ ?_)
      | (with_reducible refine LeO.bind ?_ (fun _ => ?_))
      | exact ih0 _ _ _ _ _
      | exact slices_Index_int64_int64.mono _ _ _
      | exact LeO.none _
      | refine LeO.ite ?_ ?_
      | refine LeO.bind ?_ (fun _ => ?_)
theorem impl_moves.mono : ∀ a0 a1 k, LeO (impl_moves.f k a0 a1) (impl_moves.f (k + 1) a0 a1) := by
  intro a0 a1 k
  have ih0 := impl_moves.mono_l k
  unfold impl_moves.f
  repeat' first
      | (with_reducible exact ih0 _ _ _ _ _)
      | (with_reducible exact slices_Index_int64_int64.mono _ _ _)
      | (with_reducible exact LeO.refl _)
      | (with_reducible exact LeO.none _)
      | (with_reducible refine LeO.ite ?_ ?_)
      | (with_reducible refine LeO.bind ?_ (fun _ => ?_))
      | exact ih0 _ _ _ _ _
      | exact slices_Index_int64_int64.mono _ _ _
      | exact LeO.none _
      | refine LeO.ite ?_ ?_
      | refine LeO.bind ?_ (fun _ => ?_)
def impl_moves.T7 : Bool × List (List Nat × List Nat) := (true, [([], []), ([], []), ([0, 1], [0, 1]), ([2], [2]), ([], []), ([], []), ([5], [5]), ([4, 6], [4, 6]), ([3, 7, 3], [3, 7]), ([8, 8, 0, 1, 2, 3, 4, 5, 6, 7, 8], [0, 4, 8])])
def impl_moves.B7 : List Nat := [0, 0, 3, 7, 0, 0, 32, 112, 255, 511]
theorem impl_moves.tab7 : rtab .any (opsOf Try.f64 7) = impl_moves.T7 := by kernel_rfl
theorem impl_moves.bits7 : waitsOk impl_moves.T7.2 impl_moves.B7 = true := by kernel_rfl
set_option maxHeartbeats 8000000 in
set_option maxRecDepth 100000 in
theorem impl_moves.calls (k : Nat) (A0 : Option Addr) (c0 : Nat) (l0 : List Int) (A1 : Option Addr) (c1 : Nat) (l1 : List Int) (r : Int) (w : World) (hr0 : Kd.C (Kd.int .i64) w A0 l0.length l0) (hc0 : l0.length ≤ c0) (hr1 : Kd.C (Kd.int .i64) w A1 l1.length l1) (hc1 : l1.length ≤ c1) (h : impl_moves.f k l0 l1 = some r) :
    Calls Try.prog 64 #[.slice A0 l0.length c0, .slice A1 l1.length c1] w fun e w' => e = .returned (.int .i64 r) ∧ Below w.heap.size w w' := by
  have HR0 := Aside0.mk hr0
  have HC0 := Aside0.mk hc0
  clear hr0 hc0
  have HR1 := Aside0.mk hr1
  have HC1 := Aside0.mk hc1
  clear hr1 hc1
  have HB := Aside0.mk (Below.refl w.heap.size w)
  have H : ((slices_Clone_int64_int64.f l0).bind fun t212 => (impl_moves.l0 k 0 t212 l1 (l1.length : Int) 0)) = some r := h
  clear h
  replace H := Option.bind_eq_some_iff.mp H
  obtain ⟨t212, A30, H⟩ := H
  replace H : (impl_moves.l0 k 0 t212 l1 (l1.length : Int) 0) = some r := H
  have A3 := Aside0.mk A30
  clear A30
  have H' := Aside0.mk H
  clear H
  go_enter Try.func64, Try.ntmps64
  go_wp2_with (first | ((with_reducible refine gate_callee (f := 75) rfl ?_); refine goesL_ (some 11) rfl rfl Try.func75 (by kernel_rfl) rfl #[.slice A0 l0.length c0] rfl (by (try simp only [List.map_toArray, List.map_cons, List.map_nil]); first | done | rfl | (simp only [List.length_drop, List.length_take]; rfl)) ?_; (with_reducible refine (slices_Clone_int64_int64.calls _ _ l0 t212 _ ?side1 ?side2 A3.out).mono ?_); (case side1 => repeat (first | exact HR0.out | (with_reducible refine Kd.C_alloc ?_ _) | (with_reducible refine Kd.C_drewN ?_ _) | (with_reducible refine Kd.C_drew ?_))); (case side2 => exact HC0.out); rintro e w4 ⟨v213, rfl, ho0, hb⟩; refine ⟨_, rfl, ?_⟩; have n0_ := Aside0.mk (Kd.R_lower ho0 (below_size (by repeat (first | (with_reducible first | exact HB.out | apply below_alloc | apply pw_below_drewN | apply below_drew1) | exact HB.out)))); have n1_ := Aside0.mk (below_step (by repeat (first | (with_reducible first | exact HB.out | apply below_alloc | apply pw_below_drewN | apply below_drew1) | exact HB.out)) hb); clear HB; have HO214 := n0_; have HB := n1_; clear n0_ n1_; (try clear hb); (try clear hb2); (try clear hk); (try clear hi); (try clear ho0)))
  go_loopg [5, 6, 14] k (fun kq v5 v6 v14 w' => ∃ (x5_1 : Int) (x6_1 : List Int) (x14_1 : Int), v5 = .int .i64 x5_1 ∧ v14 = .int .i64 x14_1 ∧ Aside0 (impl_moves.l0 kq x5_1 x6_1 l1 (l1.length : Int) x14_1 = some r) ∧ Aside0 (kq ≤ k) ∧ Aside0 (Kd.R (Kd.int .i64) 2 w' w.heap.size (fun _ => True) v6 x6_1) ∧ Aside0 (Below w.heap.size w w'))
  case atStart => exact ⟨(0), (t212), (0), (by first | rfl | (simp; done) | (simp [*]; done)), (by first | rfl | (simp; done) | (simp [*]; done)), H', ⟨Nat.le_refl _⟩, ⟨by (with_reducible repeat (first | apply Kd.R_alloc | apply Kd.R_drewN | apply Kd.R_drew)); exact HO214.out⟩, ⟨by repeat (first | (with_reducible first | exact HB.out | apply below_alloc | apply pw_below_drewN | apply below_drew1) | exact HB.out)⟩⟩
  case round =>
    clear H'
    try clear c1
    try clear p2
    obtain ⟨x5_1, x6_1, x14_1, rfl, rfl, HA, HK1, HO_6, HB⟩ := hrel
    cases gk with
    | zero => exact absurd HA.out (by simp [impl_moves.l0])
    | succ k1 =>
      have H := HA.out
      clear HA
      simp only [impl_moves.l0] at H
      by_cases c5 : x14_1 < (l1.length : Int)
      · rw [if_pos c5] at H
        have c5b0 : decide (x14_1 < (l1.length : Int)) = true := decide_eq_true c5
        clear c5
        by_cases c6 : 0 ≤ x14_1
        · rw [if_pos c6] at H
          have c6b0 : decide (0 ≤ x14_1) = true := decide_eq_true c6
          clear c6
          by_cases c7 : x14_1 < (l1.length : Int)
          · rw [if_pos c7] at H
            have c7b0 : decide (x14_1 < (l1.length : Int)) = true := decide_eq_true c7
            clear c7
            replace H := Option.bind_eq_some_iff.mp H
            obtain ⟨t216, A80, H⟩ := H
            replace H : (if 0 ≤ t216 then (if t216 ≤ (x6_1.length : Int) then ((slices_Clone_int64_int64.f (x6_1.take (t216 : Int).toNat)).bind fun t221 => (if 0 ≤ (wrap64 (t216 + 1)) then (if (wrap64 (t216 + 1)) ≤ (x6_1.length : Int) then ((some (x6_1.drop ((wrap64 (t216 + 1)) : Int).toNat : List Int)).bind fun y224 => (if t221.length + y224.length < 17592186044416 then (impl_moves.l0 k1 (wrap64 (x5_1 + (wrap64 ((wrap64 ((x6_1.length : Int) - 1)) - t216)))) (t221 ++ y224) l1 (l1.length : Int) (wrap64 (x14_1 + 1))) else (none))) else (none)) else (none))) else (none)) else (none)) = some r := H
            have A8 := Aside0.mk A80
            clear A80
            by_cases c9 : 0 ≤ t216
            · rw [if_pos c9] at H
              have c9b0 := eq_true c9
              have c9b1 : decide (0 ≤ t216) = true := decide_eq_true c9
              clear c9
              by_cases c10 : t216 ≤ (x6_1.length : Int)
              · rw [if_pos c10] at H
                have c10b0 := eq_true c10
                have c10b1 : decide (t216 ≤ (x6_1.length : Int)) = true := decide_eq_true c10
                clear c10
                obtain ⟨y217, hy217⟩ : ∃ y_ : List Int, y_ = (x6_1.take (t216 : Int).toNat) := ⟨_, rfl⟩
                replace H : ((slices_Clone_int64_int64.f y217).bind fun t221 => (if 0 ≤ (wrap64 (t216 + 1)) then (if (wrap64 (t216 + 1)) ≤ (x6_1.length : Int) then ((some (x6_1.drop ((wrap64 (t216 + 1)) : Int).toNat : List Int)).bind fun y224 => (if t221.length + y224.length < 17592186044416 then (impl_moves.l0 k1 (wrap64 (x5_1 + (wrap64 ((wrap64 ((x6_1.length : Int) - 1)) - t216)))) (t221 ++ y224) l1 (l1.length : Int) (wrap64 (x14_1 + 1))) else (none))) else (none)) else (none))) = some r := by first | (rw [hy217]; with_reducible exact H) | (have H2_ := (Option.bind_some _ _).symm.trans H; rw [hy217]; with_reducible exact H2_) | (have H2_ := (Option.bind_some _ _).symm.trans H; with_reducible exact H2_) | with_reducible exact H | (rw [hy217]; exact H) | exact H
                have Ny217 := Aside0.mk hy217
                clear hy217
                replace H := Option.bind_eq_some_iff.mp H
                obtain ⟨t221, A110, H⟩ := H
                replace H : (if 0 ≤ (wrap64 (t216 + 1)) then (if (wrap64 (t216 + 1)) ≤ (x6_1.length : Int) then ((some (x6_1.drop ((wrap64 (t216 + 1)) : Int).toNat : List Int)).bind fun y224 => (if t221.length + y224.length < 17592186044416 then (impl_moves.l0 k1 (wrap64 (x5_1 + (wrap64 ((wrap64 ((x6_1.length : Int) - 1)) - t216)))) (t221 ++ y224) l1 (l1.length : Int) (wrap64 (x14_1 + 1))) else (none))) else (none)) else (none)) = some r := H
                have A11 := Aside0.mk A110
                clear A110
                obtain ⟨ji12, hji12⟩ : ∃ j_ : Int, (wrap64 (t216 + 1)) = j_ := ⟨_, rfl⟩
                replace H : (if 0 ≤ (ji12) then (if (ji12) ≤ (x6_1.length : Int) then ((some (x6_1.drop ((ji12) : Int).toNat : List Int)).bind fun y224 => (if t221.length + y224.length < 17592186044416 then (impl_moves.l0 k1 (wrap64 (x5_1 + (wrap64 ((wrap64 ((x6_1.length : Int) - 1)) - t216)))) (t221 ++ y224) l1 (l1.length : Int) (wrap64 (x14_1 + 1))) else (none))) else (none)) else (none)) = some r := by first | (rw [hji12] at H; exact H) | (simp only [hji12] at H ⊢; exact H)
                (try rw [hji12] at A8)
                (try rw [hji12] at A11)
                have hji12w : (IntKind.i64.wrap (t216 + 1)) = ji12 := (i64_w _).trans hji12
                by_cases c13 : 0 ≤ (ji12)
                · rw [if_pos c13] at H
                  have c13b0 := eq_true c13
                  have c13b1 : decide (0 ≤ (ji12)) = true := decide_eq_true c13
                  clear c13
                  by_cases c14 : (ji12) ≤ (x6_1.length : Int)
                  · rw [if_pos c14] at H
                    have c14b0 := eq_true c14
                    have c14b1 : decide ((ji12) ≤ (x6_1.length : Int)) = true := decide_eq_true c14
                    clear c14
                    obtain ⟨y224, hy224⟩ : ∃ y_ : List Int, y_ = (x6_1.drop ((ji12) : Int).toNat) := ⟨_, rfl⟩
                    replace H : (if t221.length + y224.length < 17592186044416 then (impl_moves.l0 k1 (wrap64 (x5_1 + (wrap64 ((wrap64 ((x6_1.length : Int) - 1)) - t216)))) (t221 ++ y224) l1 (l1.length : Int) (wrap64 (x14_1 + 1))) else (none)) = some r := by first | (rw [hy224]; with_reducible exact H) | (have H2_ := (Option.bind_some _ _).symm.trans H; rw [hy224]; with_reducible exact H2_) | (have H2_ := (Option.bind_some _ _).symm.trans H; with_reducible exact H2_) | with_reducible exact H | (rw [hy224]; exact H) | exact H
                    have Ny224 := Aside0.mk hy224
                    clear hy224
                    by_cases c15 : t221.length + y224.length < 17592186044416
                    · rw [if_pos c15] at H
                      have LMc15 := Aside0.mk c15
                      clear c15
                      obtain ⟨y228, hy228⟩ : ∃ y_ : List Int, y_ = (t221 ++ y224) := ⟨_, rfl⟩
                      replace H : (impl_moves.l0 k1 (wrap64 (x5_1 + (wrap64 ((wrap64 ((x6_1.length : Int) - 1)) - t216)))) y228 l1 (l1.length : Int) (wrap64 (x14_1 + 1))) = some r := by first | (rw [hy228]; with_reducible exact H) | (have H2_ := (Option.bind_some _ _).symm.trans H; rw [hy228]; with_reducible exact H2_) | (have H2_ := (Option.bind_some _ _).symm.trans H; with_reducible exact H2_) | with_reducible exact H | (rw [hy228]; exact H) | exact H
                      have Ny228 := Aside0.mk hy228
                      clear hy228
                      have H' := Aside0.mk H
                      clear H
                      have p215 : 0 ≤ (x14_1 : Int) := of_decide_eq_true (by first | (with_reducible assumption) | assumption)
                      have q215 : x14_1 < (l1.length : Int) := of_decide_eq_true (by first | (with_reducible assumption) | assumption)
                      obtain ⟨ad215, e215, hx215_0⟩ := Kd.at_int HR1.out x14_1 p215 q215
                      cases e215
                      replace hx215_0 := (HB.out.cell (World.block_lt_of_cell? w _ hx215_0)).trans hx215_0
                      replace p215 := eq_true p215
                      replace q215 := eq_true q215
                      obtain ⟨Ao16, co16, eo16⟩ := Kd.R_slice HO_6.out
                      subst eo16
                      try go_wp2_with (first | ((with_reducible refine gate_callee (f := 91) rfl ?_); refine goesL_ (some 20) rfl rfl Try.func91 (by kernel_rfl) rfl #[.slice Ao16 x6_1.length co16, .int .i64 (rd l1 x14_1)] rfl (by (try simp only [List.map_toArray, List.map_cons, List.map_nil]); first | done | rfl | (simp only [List.length_drop, List.length_take]; rfl)) ?_; (with_reducible refine (slices_Index_int64_int64.calls k1 _ _ x6_1 (rd l1 x14_1) t216 _ ?side1 ?side2 A8.out).mono ?_); (case side1 => repeat (first | exact (Kd.R_reads' HO_6.out).2.2 | (with_reducible refine Kd.C_alloc ?_ _) | (with_reducible refine Kd.C_drewN ?_ _) | (with_reducible refine Kd.C_drew ?_))); (case side2 => exact (Kd.R_reads' HO_6.out).2.1); rintro e w' ⟨rfl, ⟨nd, rfl⟩⟩; refine ⟨_, rfl, ?_⟩))
                      (try (rw [drewN_self wr]; generalize hq_ : World.drewN wr _ = wr; have n0_ : Aside0 (Kd.R (Kd.int .i64) 2 wr w.heap.size (fun _ => True) (.slice Ao16 x6_1.length co16) x6_1) := ⟨by rw [← hq_]; exact (by (with_reducible repeat (first | apply Kd.R_alloc | apply Kd.R_drewN | apply Kd.R_drew)); exact HO_6.out)⟩; have n1_ : Aside0 (Below w.heap.size w wr) := ⟨by rw [← hq_]; exact (by repeat (first | (with_reducible first | exact HB.out | apply below_alloc | apply pw_below_drewN | apply below_drew1) | exact HB.out))⟩; clear HO_6 HB hq_; have HO_6 := n0_; have HB := n1_; clear n0_ n1_))
                      have n0_ := Aside0.mk (Kd.R_drew HO_6.out)
                      have n1_ := Aside0.mk (below_drew1 HB.out)
                      clear HO_6
                      clear HB
                      have HO_6 := n0_
                      have HB := n1_
                      clear n0_ n1_
                      have q18 : (t216 : Int) ≤ ((x6_1.length : Int) : Int) := of_decide_eq_true (by first | (with_reducible assumption) | assumption)
                      obtain ⟨i018, hi018, _, hsz18, _⟩ := info_parts info2
                      have hroom18 : x6_1.length ≤ co16 := (Kd.R_reads' HO_6.out).2.1
                      have hC18 : Kd.C (Kd.int .i64) _ Ao16 x6_1.length x6_1 := (Kd.R_reads' HO_6.out).2.2
                      have hcut18 := cut_to (P := Try.prog) 24 2 .i64 Try.underlying24 hi018 Ao16 x6_1.length co16 t216 (of_decide_eq_true (by first | (with_reducible assumption) | assumption)) q18 hroom18
                      have hr18 := Kd.C_take (m := (t216 : Int).toNat) hC18 (by omega)
                      have hy18 : y217.length = (t216 : Int).toNat := (by rw [Ny217.out, List.length_take]; omega)
                      rw [← Ny217.out] at hr18
                      rw [← hy18] at hcut18
                      have HR220 := Aside0.mk hr18
                      have HC220 := Aside0.mk (show y217.length ≤ co16 from by omega)
                      clear hr18 hC18 hroom18 hi018 hsz18
                      have KY18 := Aside0.mk hy18
                      clear hy18
                      have KL18 := Aside0.mk (show (t216 : Int).toNat ≤ x6_1.length from by omega)
                      replace q18 := eq_true q18
                      have q19 : ((ji12) : Int) ≤ ((x6_1.length : Int) : Int) := of_decide_eq_true (by first | (with_reducible assumption) | assumption)
                      obtain ⟨i019, hi019, _, hsz19, _⟩ := info_parts info2
                      have hroom19 : x6_1.length ≤ co16 := (Kd.R_reads' HO_6.out).2.1
                      have hC19 : Kd.C (Kd.int .i64) _ Ao16 x6_1.length x6_1 := (Kd.R_reads' HO_6.out).2.2
                      have q019 : (0 : Int) ≤ ((ji12) : Int) := of_decide_eq_true (by first | (with_reducible assumption) | assumption)
                      have hcut19 := cut_from (P := Try.prog) 24 2 .i64 Try.underlying24 hi019 1 hsz19 Ao16 x6_1.length co16 (ji12) q019 q19
                      have hr19 := Kd.C_drop (m := ((ji12) : Int).toNat) (c := co16) hC19 (by omega) hroom19
                      obtain ⟨A19, hA19⟩ : ∃ A1, A1 = (if co16 = ((ji12) : Int).toNat then Ao16 else (Ao16 : Option Addr).map (·.add (((ji12) : Int).toNat * 1))) := ⟨_, rfl⟩
                      obtain ⟨c19, hc19⟩ : ∃ c1, c1 = co16 - ((ji12) : Int).toNat := ⟨_, rfl⟩
                      have hy19 : y224.length = x6_1.length - ((ji12) : Int).toNat := (by rw [Ny224.out, List.length_drop] <;> omega)
                      rw [show (x6_1).drop ((ji12) : Int).toNat = y224 from Ny224.out.symm] at hr19
                      replace hr19 : Kd.C (Kd.int .i64) _ A19 y224.length y224 := (by rw [hA19]; exact hr19)
                      rw [← hy19, ← hA19, ← hc19] at hcut19
                      have HR227 := Aside0.mk hr19
                      have HC227 := Aside0.mk (show y224.length ≤ c19 from by rw [hy19, hc19]; exact Nat.sub_le_sub_right hroom19 _)
                      clear hr19 hC19 hroom19 hi019 hsz19 hc19
                      have KY19 := Aside0.mk hy19
                      have KA19 := Aside0.mk hA19
                      clear hy19 hA19
                      have KL19 := Aside0.mk (show ((ji12) : Int).toNat ≤ x6_1.length from by omega)
                      replace q19 := eq_true q19
                      refine start_ (n := 10) (S := fun w' => True) (ds := []) #[false, false, false, false, false, false, false, false, false, false] (by kernel_rfl) rfl rfl trivial (fun hHeld => ?_); refine with_tabW impl_moves.tab7 impl_moves.bits7 (fun HT_ HW_ => ?_)
                      generalize wr.drew = w17 at HO_6 HB HR220 HR227 hHeld ⊢
                      refine pure_ (i := 0) (N := some 28) (v := ?_) (a' := ?_) #[true, false, false, false, false, false, false, false, false, false] rfl rfl (any_of HT_.out (by kernel_rfl)) (fun _ _ _ h => h) (Or.inl ⟨by rfl, ?_⟩) ?_ ?_
                      rotate_left
                      · intro w'
                        go_simp
                        with_reducible rfl
                      rotate_left
                      · simp only [Act.put, List.setIfInBounds_toArray, List.set_cons_zero, List.set_cons_succ, i64_w, i32_w]
                        rfl
                      refine pure_ (i := 1) (N := some 29) (v := ?_) (a' := ?_) #[true, true, false, false, false, false, false, false, false, false] rfl rfl (any_of HT_.out (by kernel_rfl)) (fun _ _ _ h => h) (Or.inl ⟨by rfl, ?_⟩) ?_ ?_
                      rotate_left
                      · intro w'
                        go_simp
                        with_reducible rfl
                      rotate_left
                      · simp only [Act.put, List.setIfInBounds_toArray, List.set_cons_zero, List.set_cons_succ, i64_w, i32_w]
                        rfl
                      refine pure_ (i := 2) (N := some 30) (v := ?_) (a' := ?_) #[true, true, true, false, false, false, false, false, false, false] rfl rfl (any_of HT_.out (by kernel_rfl)) (fun _ _ _ h => h) (Or.inl ⟨by rfl, ?_⟩) ?_ ?_
                      rotate_left
                      · intro w'
                        go_simp
                        with_reducible rfl
                      rotate_left
                      · simp only [Act.put, List.setIfInBounds_toArray, List.set_cons_zero, List.set_cons_succ, i64_w, i32_w]
                        rfl
                      refine pure_ (i := 4) (N := some 32) (v := ?_) (a' := ?_) #[true, true, true, false, true, false, false, false, false, false] rfl rfl (any_of HT_.out (by kernel_rfl)) (fun _ _ _ h => h) (Or.inl ⟨by rfl, ?_⟩) ?_ ?_
                      rotate_left
                      · intro w'
                        go_simp
                        with_reducible rfl
                      rotate_left
                      · simp only [Act.put, List.setIfInBounds_toArray, List.set_cons_zero, List.set_cons_succ, i64_w, i32_w]
                        rfl
                      refine pure_ (i := 5) (N := some 33) (v := ?_) (a' := ?_) #[true, true, true, false, true, true, false, false, false, false] rfl rfl (any_of HT_.out (by kernel_rfl)) (fun _ _ _ h => h) (Or.inl ⟨by rfl, ?_⟩) ?_ ?_
                      rotate_left
                      · intro w'
                        go_simp
                        with_reducible rfl
                      rotate_left
                      · simp only [Act.put, List.setIfInBounds_toArray, List.set_cons_zero, List.set_cons_succ, i64_w, i32_w]
                        rfl
                      refine pure_ (i := 6) (N := some 34) (v := ?_) (a' := ?_) #[true, true, true, false, true, true, true, false, false, false] rfl rfl (any_of HT_.out (by kernel_rfl)) (fun _ _ _ h => h) (Or.inl ⟨by rfl, ?_⟩) ?_ ?_
                      rotate_left
                      · intro w'
                        go_simp
                        with_reducible rfl
                      rotate_left
                      · simp only [Act.put, List.setIfInBounds_toArray, List.set_cons_zero, List.set_cons_succ, i64_w, i32_w]
                        rfl
                      refine pure_ (i := 7) (N := some 35) (v := ?_) (a' := ?_) #[true, true, true, false, true, true, true, true, false, false] rfl rfl (any_of HT_.out (by kernel_rfl)) (fun _ _ _ h => h) (Or.inl ⟨by rfl, ?_⟩) ?_ ?_
                      rotate_left
                      · intro w'
                        go_simp
                        with_reducible rfl
                      rotate_left
                      · simp only [Act.put, List.setIfInBounds_toArray, List.set_cons_zero, List.set_cons_succ, i64_w, i32_w]
                        rfl
                      refine one_ (i := 3) (N := some 31) #[true, true, true, true, true, true, true, true, false, false] rfl rfl (one_of HT_.out (by kernel_rfl)) (by decide) (fun K hK => ?_)
                      refine goes_ Try.func75 (by kernel_rfl) rfl #[.slice Ao16 y217.length co16] (by rfl) rfl rfl (by (try simp only [List.map_toArray, List.map_cons, List.map_nil]); first | done | rfl | (simp only [List.length_drop, List.length_take]; rfl)) ?_
                      with_reducible refine (slices_Clone_int64_int64.calls _ _ y217 t221 _ ?side1 ?side2 A11.out).mono ?_
                      (case side1 => repeat (first | exact (by repeat (first | (with_reducible exact HR220.out) | (with_reducible refine Kd.C_alloc ?_ _) | (with_reducible refine Kd.C_drewN ?_ _) | (with_reducible refine Kd.C_drew ?_) | exact HR220.out)) | (with_reducible refine Kd.C_alloc ?_ _) | (with_reducible refine Kd.C_drewN ?_ _) | (with_reducible refine Kd.C_drew ?_)))
                      (case side2 => exact HC220.out)
                      rintro e w20 ⟨v222, rfl, ho0, hb⟩
                      refine ⟨_, rfl, ?_⟩
                      have n0_ := Aside0.mk (Kd.R_elder' (by (with_reducible repeat (first | apply Kd.R_alloc | apply Kd.R_drewN | apply Kd.R_drew)); exact HO_6.out) (Kd.R_base ho0) hb)
                      have n1_ := Aside0.mk (Kd.R_lower (Kd.R_new' ho0 (Kd.R_lt (by (with_reducible repeat (first | apply Kd.R_alloc | apply Kd.R_drewN | apply Kd.R_drew)); exact HO_6.out))) (below_size (by repeat (first | (with_reducible first | exact HB.out | apply below_alloc | apply pw_below_drewN | apply below_drew1) | exact HB.out))))
                      have n2_ := Aside0.mk (Kd.C_below (by repeat (first | (with_reducible exact HR220.out) | (with_reducible refine Kd.C_alloc ?_ _) | (with_reducible refine Kd.C_drewN ?_ _) | (with_reducible refine Kd.C_drew ?_) | exact HR220.out)) hb)
                      have n3_ := Aside0.mk (Kd.C_below (by repeat (first | (with_reducible exact HR227.out) | (with_reducible refine Kd.C_alloc ?_ _) | (with_reducible refine Kd.C_drewN ?_ _) | (with_reducible refine Kd.C_drew ?_) | exact HR227.out)) hb)
                      have n4_ := Aside0.mk (below_step (by repeat (first | (with_reducible first | exact HB.out | apply below_alloc | apply pw_below_drewN | apply below_drew1) | exact HB.out)) hb)
                      clear HO_6
                      clear HR220
                      clear HR227
                      clear HB
                      have HO_6 := n0_
                      have HO223 := n1_
                      have HR220 := n2_
                      have HR227 := n3_
                      have HB := n4_
                      clear n0_ n1_ n2_ n3_ n4_
                      (try clear hb)
                      (try clear hb2)
                      (try clear hk)
                      (try clear hi)
                      (try clear ho0)
                      refine hK.out _ _ trivial (fun hHeld => ?_)
                      clear hK K
                      refine norm_ (a' := ?_) ?_ ?_
                      rotate_left
                      · show Act.put _ (some 31) _ = _
                        simp only [Act.put, List.setIfInBounds_toArray, List.set_cons_zero, List.set_cons_succ, i64_w, i32_w]
                        rfl
                      refine one_ (i := 8) (N := some 36) #[true, true, true, true, true, true, true, true, true, false] rfl rfl (one_of HT_.out (by kernel_rfl)) (by decide) (fun K hK => ?_)
                      refine Kd.R_append_rows_step (Kd.int .i64) (w0 := w) w.heap.size (by rfl) (.tmp 31) (.tmp 35) 24 2 (.int .i64 0) 8 rfl Try.underlying24 info2 rfl (by decide) (by omega) v222 t221 y224 _ _ _ (fun k_ => some k_ ≠ (.slice Ao16 x6_1.length co16 : Value).ownBlock) (fun _ => False) rfl rfl ?aO ?aR (fun _ _ h => h) (fun _ h => h.elim) ?aF ?aB ?aS ?aL ?_
                      (case aR => repeat (first | exact (by repeat (first | (with_reducible exact HR227.out) | (with_reducible refine Kd.C_alloc ?_ _) | (with_reducible refine Kd.C_drewN ?_ _) | (with_reducible refine Kd.C_drew ?_) | exact HR227.out)) | (with_reducible refine Kd.C_alloc ?_ _) | (with_reducible refine Kd.C_drewN ?_ _) | (with_reducible refine Kd.C_drew ?_)))
                      (case aB => exact (by repeat (first | (with_reducible first | exact HB.out | apply below_alloc | apply pw_below_drewN | apply below_drew1) | exact HB.out)))
                      (case aF => exact (fun k_ hk => Kd.fresh' (Kd.R_lt (by (with_reducible repeat (first | apply Kd.R_alloc | apply Kd.R_drewN | apply Kd.R_drew)); exact HO_6.out)) k_ hk))
                      (case aO => exact (by (with_reducible repeat (first | apply Kd.R_alloc | apply Kd.R_drewN | apply Kd.R_drew)); exact Kd.R_mono HO223.out (fun _ hk => hk.2)))
                      (case aS => exact (below_size (by repeat (first | (with_reducible first | exact HB.out | apply below_alloc | apply pw_below_drewN | apply below_drew1) | exact HB.out))))
                      (case aL => have := LMc15.out; omega)
                      intro v229 w21 ho hb hg hat
                      rw [← Ny228.out] at ho
                      have n0_ := Aside0.mk (Kd.R_after (ok := (fun _ => True)) (by (with_reducible repeat (first | apply Kd.R_alloc | apply Kd.R_drewN | apply Kd.R_drew)); exact HO_6.out) hg hat)
                      have n1_ := Aside0.mk (hb)
                      have n2_ := Aside0.mk ((show Kd.C (Kd.int .i64) w21 Ao16 y217.length y217 from by rw [Ny217.out]; exact Kd.C_take (m := (t216 : Int).toNat) ((Kd.R_reads' (Kd.R_after (ok := (fun _ => True)) (by (with_reducible repeat (first | apply Kd.R_alloc | apply Kd.R_drewN | apply Kd.R_drew)); exact HO_6.out) hg hat)).2.2) KL18.out))
                      have n3_ := Aside0.mk ((show Kd.C (Kd.int .i64) w21 A19 y224.length y224 from by rw [Ny224.out, KA19.out]; exact Kd.C_drop (m := ((ji12) : Int).toNat) (c := co16) ((Kd.R_reads' (Kd.R_after (ok := (fun _ => True)) (by (with_reducible repeat (first | apply Kd.R_alloc | apply Kd.R_drewN | apply Kd.R_drew)); exact HO_6.out) hg hat)).2.2) KL19.out ((Kd.R_reads' (Kd.R_after (ok := (fun _ => True)) (by (with_reducible repeat (first | apply Kd.R_alloc | apply Kd.R_drewN | apply Kd.R_drew)); exact HO_6.out) hg hat)).2.1)))
                      have n4_ := Aside0.mk (ho)
                      clear HO_6
                      clear HB
                      clear HR220
                      clear HR227
                      clear HO223
                      have HO_6 := n0_
                      have HB := n1_
                      have HR220 := n2_
                      have HR227 := n3_
                      have HO230 := n4_
                      clear n0_ n1_ n2_ n3_ n4_
                      clear ho hb hg hat
                      refine hK.out _ _ trivial (fun hHeld => ?_)
                      clear hK K
                      refine norm_ (a' := ?_) ?_ ?_
                      rotate_left
                      · show Act.put _ (some 36) _ = _
                        simp only [Act.put, List.setIfInBounds_toArray, List.set_cons_zero, List.set_cons_succ, i64_w, i32_w]
                        rfl
                      refine pure_ (i := 9) (N := some 6) (v := ?_) (a' := ?_) #[true, true, true, true, true, true, true, true, true, true] rfl rfl (any_of HT_.out (by kernel_rfl)) (fun _ _ _ h => h) (Or.inl ⟨by rfl, ?_⟩) ?_ ?_
                      rotate_left
                      · intro w'
                        go_simp
                        with_reducible rfl
                      rotate_left
                      · simp only [Act.put, List.setIfInBounds_toArray, List.set_cons_zero, List.set_cons_succ, i64_w, i32_w]
                        rfl
                      refine done_ (done_of HT_.out (by kernel_rfl)) ?_
                      try go_wp2
                      go_roundg k1
                      case measure => have := HK1.out; omega
                      case rel => exact ⟨(wrap64 (x5_1 + (wrap64 ((wrap64 ((x6_1.length : Int) - 1)) - t216)))), (y228), (wrap64 (x14_1 + 1)), (by first | rfl | (simp; done) | (simp [*]; done)), (by first | rfl | (simp; done) | (simp [*]; done)), H', ⟨by have := HK1.out; omega⟩, ⟨by (with_reducible repeat (first | apply Kd.R_alloc | apply Kd.R_drewN | apply Kd.R_drew)); exact Kd.R_mono HO230.out (fun _ hk => trivial)⟩, ⟨by repeat (first | (with_reducible first | exact HB.out | apply below_alloc | apply pw_below_drewN | apply below_drew1) | exact HB.out)⟩⟩
                    · rw [if_neg c15] at H
                      exact absurd H (by simp)
                  · rw [if_neg c14] at H
                    exact absurd H (by simp)
                · rw [if_neg c13] at H
                  exact absurd H (by simp)
              · rw [if_neg c10] at H
                exact absurd H (by simp)
            · rw [if_neg c9] at H
              exact absurd H (by simp)
          · rw [if_neg c7] at H
            exact absurd H (by simp)
        · rw [if_neg c6] at H
          exact absurd H (by simp)
      · rw [if_neg c5] at H
        have c5b0 : decide (x14_1 < (l1.length : Int)) = false := decide_eq_false c5
        clear c5
        obtain rfl := Option.some.inj H
        go_wp2
        go_ret
        exact ⟨by first | rfl | (simp [errW_none, errW_some] <;> rfl) | (simp [*, errW_none, errW_some] <;> rfl), by repeat (first | (with_reducible first | exact HB.out | apply below_alloc | apply pw_below_drewN | apply below_drew1) | exact HB.out)⟩

/-! ### slices_Contains_int64_int64: function 71 -/
def slices_Contains_int64_int64.f (k : Nat) (l0 : List Int) (a1 : Int) : Option (Bool) := (slices_Index_int64_int64.f k l0 a1).bind fun t231 => (some (decide (t231 ≥ 0)))
theorem slices_Contains_int64_int64.mono : ∀ a0 a1 k, LeO (slices_Contains_int64_int64.f k a0 a1) (slices_Contains_int64_int64.f (k + 1) a0 a1) := by
  intro a0 a1 k
  unfold slices_Contains_int64_int64.f
  repeat' first
      | (with_reducible exact slices_Index_int64_int64.mono _ _ _)
      | (with_reducible exact LeO.refl _)
      | (with_reducible exact LeO.none _)
      | (with_reducible refine LeO.ite ?_ ?_)
      | (with_reducible refine LeO.bind ?_ (fun _ => ?_))
      | exact slices_Index_int64_int64.mono _ _ _
      | exact LeO.none _
      | refine LeO.ite ?_ ?_
      | refine LeO.bind ?_ (fun _ => ?_)
set_option maxHeartbeats 8000000 in
set_option maxRecDepth 100000 in
theorem slices_Contains_int64_int64.calls (k : Nat) (A0 : Option Addr) (c0 : Nat) (l0 : List Int) (a1 : Int) (r : Bool) (w : World) (hr0 : Kd.C (Kd.int .i64) w A0 l0.length l0) (hc0 : l0.length ≤ c0) (h : slices_Contains_int64_int64.f k l0 a1 = some r) :
    Calls Try.prog 71 #[.slice A0 l0.length c0, .int .i64 a1] w fun e w' => e = .returned (.bool r) ∧ Drawn0 w w' := by
  have HR0 := Aside0.mk hr0
  have HC0 := Aside0.mk hc0
  clear hr0 hc0
  have H : ((slices_Index_int64_int64.f k l0 a1).bind fun t231 => (some (decide (t231 ≥ 0)))) = some r := h
  clear h
  replace H := Option.bind_eq_some_iff.mp H
  obtain ⟨t231, A30, H⟩ := H
  replace H : (some (decide (t231 ≥ 0))) = some r := H
  have A3 := Aside0.mk A30
  clear A30
  obtain rfl := Option.some.inj H
  go_enter Try.func71, Try.ntmps71
  go_wp2_with (first | ((with_reducible refine gate_callee (f := 91) rfl ?_); refine goesL_ (some 7) rfl rfl Try.func91 (by kernel_rfl) rfl #[.slice A0 l0.length c0, .int .i64 a1] rfl (by (try simp only [List.map_toArray, List.map_cons, List.map_nil]); first | done | rfl | (simp only [List.length_drop, List.length_take]; rfl)) ?_; (with_reducible refine (slices_Index_int64_int64.calls k _ _ l0 a1 t231 _ ?side1 ?side2 A3.out).mono ?_); (case side1 => repeat (first | exact HR0.out | (with_reducible refine Kd.C_alloc ?_ _) | (with_reducible refine Kd.C_drewN ?_ _) | (with_reducible refine Kd.C_drew ?_))); (case side2 => exact HC0.out); rintro e w' ⟨rfl, ⟨nd, rfl⟩⟩; refine ⟨_, rfl, ?_⟩))
  go_ret
  exact ⟨by first | rfl | (simp; done) | (simp [*]; done), by repeat (first | exact Drawn0.refl _ | apply Drawn0.step)⟩

end Go.Proofs.Ytjcdgimldhodiaa.PFnExactLeastMoves
