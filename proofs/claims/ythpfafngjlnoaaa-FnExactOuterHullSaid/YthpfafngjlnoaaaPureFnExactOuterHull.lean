/- The program's OuterHull returns what the reference's OuterHull returns, for every hull and every list of hulls (of at most 2^20; longer ones the law lets by). -/
import Derived.Test.YthpfafngjlnoaaaPFnExactOuterHullx4
namespace Go.Proofs.Ythpfafngjlnoaaa.Pure
open Go.RowKit Go.Proofs.Ythpfafngjlnoaaa.PFnExactOuterHull Go.Proofs.YthpfafngjlnoaaaW.PrintWords Go.Proofs.YthpfafngjlnoaaaW.PrintLast Go.Proofs.YthpfafngjlnoaaaW.PrintMore
set_option linter.unusedVariables false
set_option linter.unusedSimpArgs false

theorem of_drop {α : Type} {xs : List α} {p : Nat} {x : α} {rest : List α} (h : xs.drop p = x :: rest) : p < xs.length ∧ xs.drop (p + 1) = rest ∧ ∀ d, xs.getD ((p : Int)).toNat d = x := by
  have hp : p < xs.length := by
    rcases Nat.lt_or_ge p xs.length with h1 | h1
    · exact h1
    · rw [List.drop_eq_nil_of_le h1] at h; cases h
  rw [List.drop_eq_getElem_cons hp] at h
  injection h with h1 h2
  refine ⟨hp, h2, fun d => ?_⟩
  rw [Int.toNat_natCast, List.getD_eq_getElem?_getD, List.getElem?_eq_getElem hp]
  exact h1

theorem of_drop_nil {α : Type} {xs : List α} {p : Nat} (h : xs.drop p = []) : xs.length ≤ p := List.drop_eq_nil_iff.1 h

theorem step64 {p n : Nat} (h : p < n) (hn : n ≤ 1152921504606846976) : wrap64 ((p : Int) + 1) = ((p + 1 : Nat) : Int) := by
  unfold wrap64
  omega

theorem take_set_at {α : Type} (ys : List α) (p : Nat) (v : α) (h : p < ys.length) : (ys.set p v).take (p + 1) = ys.take p ++ [v] := by
  rw [List.take_succ_eq_append_getElem (by simpa using h), List.take_set_of_le (Nat.le_refl _)]
  simp

theorem i8_in {a : Int} (h : (Lit.int .i8 a).wf = true) : -128 ≤ a ∧ a ≤ 127 := by
  simp [Lit.wf, IntKind.min, IntKind.max, IntKind.signed, IntKind.bits] at h
  omega

theorem i64_in {a : Int} (h : (Lit.int .i64 a).wf = true) : -9223372036854775808 ≤ a ∧ a ≤ 9223372036854775807 := by
  simp [Lit.wf, IntKind.min, IntKind.max, IntKind.signed, IntKind.bits] at h
  omega

theorem w64_id {a : Int} (h : -9223372036854775808 ≤ a ∧ a ≤ 9223372036854775807) : wrap64 a = a := by
  unfold wrap64
  omega

theorem w8_cases (a : Int) : IntKind.i8.wrap a = if a % 256 ≥ 128 then a % 256 - 256 else a % 256 := by
  simp [IntKind.wrap, IntKind.signed, IntKind.bits]

theorem some_dec {p q : Prop} [Decidable p] [Decidable q] (h : p ↔ q) : some (decide p) = some (decide q) := by rw [decide_eq_decide.2 h]
theorem some_decF {q : Prop} [Decidable q] (h : ¬ q) : some false = some (decide q) := by rw [decide_eq_false h]
theorem some_decT {q : Prop} [Decidable q] (h : q) : some true = some (decide q) := by rw [decide_eq_true h]

/-- A hull that is valid. -/
def vh (x : S26) : Bool := decide (1 ≤ x.f0 ∧ x.f0 ≤ 40 ∧ 1 ≤ x.f1 ∧ x.f1 ≤ 100 ∧ 1 ≤ x.f2 ∧ x.f2 ≤ 20)
def In8 (x : S26) : Prop := (-128 ≤ x.f0 ∧ x.f0 ≤ 127) ∧ (-128 ≤ x.f1 ∧ x.f1 ≤ 127) ∧ (-128 ≤ x.f2 ∧ x.f2 ≤ 127)

def cvH (x : S24) : S26 := ⟨x.f0, x.f1, x.f2⟩

theorem toHullS_l0 (l : List S24) (hl : l.length ≤ 1152921504606846976) : ∀ (rest : List S24) (p k : Nat) (ys : List S26), l.drop p = rest → ys.length = l.length → rest.length < k →
    laws_toHullS.l0 k l ys (p : Int) = some (ys.take p ++ rest.map cvH) := by
  intro rest
  induction rest with
  | nil =>
    intro p k ys hd hy hk
    obtain ⟨k, rfl⟩ : ∃ m, k = m + 1 := ⟨k - 1, by simp at hk; omega⟩
    have := of_drop_nil hd
    simp only [laws_toHullS.l0]
    rw [if_neg (by omega), List.take_of_length_le (by omega)]
    simp
  | cons x rest ih =>
    intro p k ys hd hy hk
    simp only [List.length_cons] at hk
    obtain ⟨k, rfl⟩ : ∃ m, k = m + 1 := ⟨k - 1, by omega⟩
    obtain ⟨hp, hd', hx⟩ := of_drop hd
    simp only [laws_toHullS.l0, laws_toHull.f, rd_T24, hx, Option.bind_some]
    rw [if_pos (by omega), if_pos (by omega), if_pos (by omega), step64 hp hl, ih (p + 1) k _ hd' (by simpa using hy) (by omega), Int.toNat_natCast, take_set_at _ _ _ (by omega)]
    simp [cvH]

theorem toHullS_is (l : List S24) (hl : l.length ≤ 93824992236885) (k : Nat) (hk : l.length < k) : laws_toHullS.f k l = some (l.map cvH) := by
  unfold laws_toHullS.f
  rw [if_pos (by omega), if_pos (by omega)]
  have := toHullS_l0 l (by omega) l 0 k (List.replicate (l.length : Int).toNat z26) rfl (by simp) hk
  simpa using this

theorem cvH_in {l : List S24} (h : ∀ x ∈ l, (Lit.int .i8 x.f0).wf = true ∧ (Lit.int .i8 x.f1).wf = true ∧ (Lit.int .i8 x.f2).wf = true) : ∀ x ∈ l.map cvH, In8 x := by
  intro x hx
  obtain ⟨y, hy, rfl⟩ := List.mem_map.1 hx
  exact ⟨i8_in (h y hy).1, i8_in (h y hy).2.1, i8_in (h y hy).2.2⟩

theorem eqHullS_l0 (l : List S26) (hl : l.length ≤ 1152921504606846976) : ∀ (rest : List S26) (p k : Nat), l.drop p = rest → rest.length < k → laws_eqHullS.l0 k l l (p : Int) = some true := by
  intro rest
  induction rest with
  | nil =>
    intro p k hd hk
    obtain ⟨k, rfl⟩ : ∃ m, k = m + 1 := ⟨k - 1, by simp at hk; omega⟩
    have := of_drop_nil hd
    simp only [laws_eqHullS.l0]
    rw [if_neg (by omega)]
  | cons x rest ih =>
    intro p k hd hk
    simp only [List.length_cons] at hk
    obtain ⟨k, rfl⟩ : ∃ m, k = m + 1 := ⟨k - 1, by omega⟩
    obtain ⟨hp, hd', hx⟩ := of_drop hd
    simp only [laws_eqHullS.l0, laws_eqHull.f, if_true, Option.bind_some]
    rw [if_pos (by omega), if_pos (by omega), if_pos (by omega), step64 hp hl]
    exact ih (p + 1) k hd' (by omega)

theorem eqHullS_is (l : List S26) (hl : l.length ≤ 1152921504606846976) (k : Nat) (hk : l.length < k) : laws_eqHullS.f k l l = some true := by
  unfold laws_eqHullS.f
  rw [if_pos rfl]
  exact eqHullS_l0 l hl l 0 k rfl hk

theorem szHullS_is (l : List S24) (a : Int) (hl : l.length ≤ 93824992236885) (h0 : 0 ≤ a) (h1 : a ≤ 1048576) : laws_szHullS.f l a = some (if a < l.length then -1 else a - l.length) := by
  unfold laws_szHullS.f
  rw [w64_id (by omega)]
  by_cases h : a < l.length
  · rw [if_pos (by omega), if_pos h]
  · rw [if_neg (by omega), if_neg h]

theorem implValid_is (a b c : Int) : impl_ValidHull.f a b c = some (vh ⟨a, b, c⟩) := by
  unfold impl_ValidHull.f
  show _ = some (decide (1 ≤ a ∧ a ≤ 40 ∧ 1 ≤ b ∧ b ≤ 100 ∧ 1 ≤ c ∧ c ≤ 20))
  repeat' split
  all_goals first | exact some_dec (by omega) | exact some_decF (by omega)

theorem l00In_is (a lo hi : Int) : spec_l00In.f a lo hi = some (decide (lo ≤ a ∧ a ≤ hi)) := by
  unfold spec_l00In.f
  repeat' split
  all_goals first | exact some_dec (by omega) | exact some_decF (by omega)

theorem vh_and (x : S26) : vh x = (decide (1 ≤ x.f0 ∧ x.f0 ≤ 40) && (decide (1 ≤ x.f1 ∧ x.f1 ≤ 100) && decide (1 ≤ x.f2 ∧ x.f2 ≤ 20))) := by
  unfold vh
  rw [← Bool.decide_and, ← Bool.decide_and]
  exact decide_eq_decide.2 (by omega)

theorem specValid_is (a b c : Int) (h : In8 ⟨a, b, c⟩) : spec_l04Hull.f a b c = some (vh ⟨a, b, c⟩) := by
  obtain ⟨h0, h1, h2⟩ := h
  simp only at h0 h1 h2
  unfold spec_l04Hull.f
  rw [w64_id (by omega), w64_id (by omega), w64_id (by omega), l00In_is, l00In_is, l00In_is, vh_and]
  simp only [Option.bind_some]
  cases decide (1 ≤ a ∧ a ≤ 40) <;> cases decide (1 ≤ b ∧ b ≤ 100) <;> rfl

def codeH (l : List S26) : Int := if l.all vh then (if l.length > 7 then 3 else 0) else 1

theorem hullsCode_l0 (l : List S26) (hl : l.length ≤ 1152921504606846976) : ∀ (rest : List S26) (p k : Nat), l.drop p = rest → rest.length < k →
    impl_hullsCode.l0 k l l (l.length : Int) (p : Int) = some (if rest.all vh then (if l.length > 7 then 3 else 0) else 1) := by
  intro rest
  induction rest with
  | nil =>
    intro p k hd hk
    obtain ⟨k, rfl⟩ : ∃ m, k = m + 1 := ⟨k - 1, by simp at hk; omega⟩
    have := of_drop_nil hd
    simp only [impl_hullsCode.l0]
    rw [if_neg (by omega)]
    by_cases h : l.length > 7
    · rw [if_pos (by omega)]; simp [h]
    · rw [if_neg (by omega)]; simp [h]
  | cons x rest ih =>
    intro p k hd hk
    simp only [List.length_cons] at hk
    obtain ⟨k, rfl⟩ : ∃ m, k = m + 1 := ⟨k - 1, by omega⟩
    obtain ⟨hp, hd', hx⟩ := of_drop hd
    simp only [impl_hullsCode.l0, rd_T26, hx, implValid_is, Option.bind_some]
    rw [if_pos (by omega), if_pos (by omega), if_pos (by omega), step64 hp hl, ih (p + 1) k hd' (by omega)]
    cases hv : vh x <;> simp [hv]

theorem hullsCode_is (l : List S26) (hl : l.length ≤ 1152921504606846976) (k : Nat) (hk : l.length < k) : impl_hullsCode.f k l = some (codeH l) := by
  unfold impl_hullsCode.f codeH
  exact hullsCode_l0 l hl l 0 k rfl hk

theorem l04Asked_l0 (l : List S26) (hl : l.length ≤ 1152921504606846976) (h8 : ∀ x ∈ l, In8 x) : ∀ (rest : List S26) (p k : Nat), l.drop p = rest → rest.length < k →
    spec_l04Asked.l0 k l (p : Int) = some (if rest.all vh then (if l.length > 7 then 3 else 0) else 1) := by
  intro rest
  induction rest with
  | nil =>
    intro p k hd hk
    obtain ⟨k, rfl⟩ : ∃ m, k = m + 1 := ⟨k - 1, by simp at hk; omega⟩
    have := of_drop_nil hd
    simp only [spec_l04Asked.l0]
    rw [if_neg (by omega)]
    by_cases h : l.length > 7
    · rw [if_pos (by omega)]; simp [h]
    · rw [if_neg (by omega)]; simp [h]
  | cons x rest ih =>
    intro p k hd hk
    simp only [List.length_cons] at hk
    obtain ⟨k, rfl⟩ : ∃ m, k = m + 1 := ⟨k - 1, by omega⟩
    obtain ⟨hp, hd', hx⟩ := of_drop hd
    have hx8 : In8 x := h8 x (List.mem_of_mem_drop (by rw [hd]; exact List.mem_cons_self))
    simp only [spec_l04Asked.l0, rd_T26, hx, specValid_is _ _ _ hx8, Option.bind_some]
    rw [if_pos (by omega), if_pos (by omega), step64 hp hl, ih (p + 1) k hd' (by omega)]
    cases hv : vh x <;> simp [hv]

theorem l04Asked_is (l : List S26) (hl : l.length ≤ 1152921504606846976) (h8 : ∀ x ∈ l, In8 x) (k : Nat) (hk : l.length < k) : spec_l04Asked.f k l = some (codeH l) := by
  unfold spec_l04Asked.f codeH
  exact l04Asked_l0 l hl h8 l 0 k rfl hk

theorem codeH_ok {l : List S26} (h : codeH l = 0) : l.length ≤ 7 ∧ ∀ x ∈ l, vh x = true := by
  unfold codeH at h
  split at h
  · rename_i ha
    split at h
    · cases h
    · exact ⟨by omega, by simpa using ha⟩
  · cases h

def may (x y : S26) : Bool := decide (x.f2 - y.f2 ≤ 2 ∧ y.f2 - x.f2 ≤ 2 ∧ y.f1 ≤ x.f1 + 3)

theorem specMay_is (x y : S26) (hx : In8 x) (hy : In8 y) : spec_l04May.f x.f0 x.f1 x.f2 y.f0 y.f1 y.f2 = some (may x y) := by
  obtain ⟨_, x1, x2⟩ := hx
  obtain ⟨_, y1, y2⟩ := hy
  unfold spec_l04May.f may
  rw [w64_id (a := x.f2) (by omega), w64_id (a := y.f2) (by omega), w64_id (a := x.f1) (by omega), w64_id (a := y.f1) (by omega), w64_id (by omega), w64_id (by omega)]
  repeat' split
  all_goals first | exact some_dec (by omega) | exact some_decF (by omega)

/-- The program takes the difference of the heights as an int8: with valid hulls nothing wraps. -/
theorem implMay_is (x y : S26) (hx : vh x = true) (hy : vh y = true) : impl_mayLie.f x.f0 x.f1 x.f2 y.f0 y.f1 y.f2 = some (may x y) := by
  simp only [vh, decide_eq_true_eq] at hx hy
  unfold impl_mayLie.f may
  have e : IntKind.i8.wrap (x.f2 - y.f2) = x.f2 - y.f2 := by
    rw [w8_cases]
    split <;> omega
  rw [e, w64_id (a := x.f1) (by omega), w64_id (a := y.f1) (by omega), w64_id (by omega)]
  repeat' split
  all_goals first | exact some_dec (by omega) | exact some_decF (by omega)

/-- The places of the hulls beside which h may lie, from place i on. -/
def outerFrom (h : S26) : Int → List S26 → List Int
  | _, [] => []
  | i, x :: r => if may x h then i :: outerFrom h (i + 1) r else outerFrom h (i + 1) r

theorem outerFrom_length (h : S26) : ∀ (r : List S26) (i : Int), (outerFrom h i r).length ≤ r.length
  | [], _ => by simp [outerFrom]
  | x :: r, i => by
    have := outerFrom_length h r (i + 1)
    simp only [outerFrom, List.length_cons]
    split
    · simp only [List.length_cons]; omega
    · omega

theorem specOuter_l0 (h : S26) (hh : In8 h) (l : List S26) (hl : l.length ≤ 17592186044415) (h8 : ∀ x ∈ l, In8 x) : ∀ (rest : List S26) (p k : Nat) (o : List Int), l.drop p = rest → o.length ≤ p → rest.length < k →
    spec_OuterHull.l0 k l o (p : Int) h.f0 h.f1 h.f2 = some (o ++ outerFrom h (p : Int) rest, 0) := by
  intro rest
  induction rest with
  | nil =>
    intro p k o hd ho hk
    obtain ⟨k, rfl⟩ : ∃ m, k = m + 1 := ⟨k - 1, by simp at hk; omega⟩
    have := of_drop_nil hd
    simp only [spec_OuterHull.l0, outerFrom, List.append_nil]
    rw [if_neg (by omega)]
  | cons x rest ih =>
    intro p k o hd ho hk
    simp only [List.length_cons] at hk
    obtain ⟨k, rfl⟩ : ∃ m, k = m + 1 := ⟨k - 1, by omega⟩
    obtain ⟨hp, hd', hx⟩ := of_drop hd
    have hx8 : In8 x := h8 x (List.mem_of_mem_drop (by rw [hd]; exact List.mem_cons_self))
    simp only [spec_OuterHull.l0, rd_T26, hx, specMay_is x h hx8 hh, Option.bind_some, outerFrom]
    rw [if_pos (by omega), if_pos (by omega), step64 hp (by omega)]
    cases hm : may x h with
    | true =>
      rw [if_pos rfl, if_pos (by omega), ih (p + 1) k _ hd' (by simp; omega) (by omega)]
      simp
    | false =>
      rw [if_neg (by simp), ih (p + 1) k _ hd' (by omega) (by omega)]
      simp

theorem implOuter_l0 (h : S26) (hh : vh h = true) (l : List S26) (hl : l.length ≤ 17592186044415) (hv : ∀ x ∈ l, vh x = true) : ∀ (rest : List S26) (p k : Nat) (o : List Int), l.drop p = rest → o.length ≤ p → rest.length < k →
    impl_OuterHull.l0 k o l (l.length : Int) (p : Int) h.f0 h.f1 h.f2 = some (o ++ outerFrom h (p : Int) rest, 0) := by
  intro rest
  induction rest with
  | nil =>
    intro p k o hd ho hk
    obtain ⟨k, rfl⟩ : ∃ m, k = m + 1 := ⟨k - 1, by simp at hk; omega⟩
    have := of_drop_nil hd
    simp only [impl_OuterHull.l0, outerFrom, List.append_nil]
    rw [if_neg (by omega)]
  | cons x rest ih =>
    intro p k o hd ho hk
    simp only [List.length_cons] at hk
    obtain ⟨k, rfl⟩ : ∃ m, k = m + 1 := ⟨k - 1, by omega⟩
    obtain ⟨hp, hd', hx⟩ := of_drop hd
    have hx8 := hv x (List.mem_of_mem_drop (by rw [hd]; exact List.mem_cons_self))
    simp only [impl_OuterHull.l0, rd_T26, hx, implMay_is x h hx8 hh, Option.bind_some, outerFrom]
    rw [if_pos (by omega), if_pos (by omega), if_pos (by omega), step64 hp (by omega)]
    cases hm : may x h with
    | true =>
      rw [if_pos rfl, if_pos (by omega), ih (p + 1) k _ hd' (by simp; omega) (by omega)]
      simp
    | false =>
      rw [if_neg (by simp), ih (p + 1) k _ hd' (by omega) (by omega)]
      simp

/-! The law's harness over a result that is a list of whole numbers. -/
theorem eqInt64S_l0 (l : List Int) (hl : l.length ≤ 1152921504606846976) : ∀ (rest : List Int) (p k : Nat), l.drop p = rest → rest.length < k → laws_eqInt64S.l0 k l l (p : Int) = some true := by
  intro rest
  induction rest with
  | nil =>
    intro p k hd hk
    obtain ⟨k, rfl⟩ : ∃ m, k = m + 1 := ⟨k - 1, by simp at hk; omega⟩
    have := of_drop_nil hd
    simp only [laws_eqInt64S.l0]
    rw [if_neg (by omega)]
  | cons x rest ih =>
    intro p k hd hk
    simp only [List.length_cons] at hk
    obtain ⟨k, rfl⟩ : ∃ m, k = m + 1 := ⟨k - 1, by omega⟩
    obtain ⟨hp, hd', hx⟩ := of_drop hd
    simp only [laws_eqInt64S.l0, if_true]
    rw [if_pos (by omega), if_pos (by omega), if_pos (by omega), step64 hp hl]
    exact ih (p + 1) k hd' (by omega)

theorem eqInt64S_is (l : List Int) (hl : l.length ≤ 1152921504606846976) (k : Nat) (hk : l.length < k) : laws_eqInt64S.f k l l = some true := by
  unfold laws_eqInt64S.f
  rw [if_pos rfl]
  exact eqInt64S_l0 l hl l 0 k rfl hk

/-- 1, 2, 3, .. in place of every number. -/
def marks : Int → Nat → List Int
  | _, 0 => []
  | a, n + 1 => a :: marks (a + 1) n

theorem marks_length : ∀ (n : Nat) (a : Int), (marks a n).length = n
  | 0, _ => rfl
  | n + 1, a => by simp [marks, marks_length n]

theorem markInt64S_l0 : ∀ (n p k : Nat) (l : List Int) (a : Int), l.length ≤ 1152921504606846976 → l.length = p + n → n < k → 0 ≤ a → a ≤ 2305843009213693952 + p →
    laws_markInt64S.l0 k l a (p : Int) = some (a + n, l.take p ++ marks a n)
  | 0, p, k, l, a, hl, hn, hk, h0, h1 => by
    obtain ⟨k, rfl⟩ : ∃ m, k = m + 1 := ⟨k - 1, by omega⟩
    simp only [laws_markInt64S.l0, marks]
    rw [if_neg (by omega), List.take_of_length_le (by omega)]
    simp
  | n + 1, p, k, l, a, hl, hn, hk, h0, h1 => by
    obtain ⟨k, rfl⟩ : ∃ m, k = m + 1 := ⟨k - 1, by omega⟩
    simp only [laws_markInt64S.l0]
    rw [if_pos (by omega), if_pos (by omega), w64_id (by omega), step64 (show p < l.length by omega) hl, Int.toNat_natCast,
      markInt64S_l0 n (p + 1) k (l.set p a) (a + 1) (by simpa using hl) (by simp; omega) (by omega) (by omega) (by omega), take_set_at _ _ _ (by omega)]
    simp only [marks, Option.some.injEq, Prod.mk.injEq, List.append_assoc, List.singleton_append, and_true]
    omega

theorem markInt64S_is (l : List Int) (hl : l.length ≤ 1152921504606846976) (k : Nat) (hk : l.length < k) : laws_markInt64S.f k l 1 = some (1 + (l.length : Int), marks 1 l.length) := by
  unfold laws_markInt64S.f
  exact (markInt64S_l0 l.length 0 k l 1 hl (by simp) hk (by omega) (by omega)).trans (by rw [List.take_zero, List.nil_append])

theorem heldInt64S_l0 (l : List Int) (hl : l.length ≤ 1152921504606846976) : ∀ (n p k : Nat) (a : Int), l.length = p + n → l.drop p = marks a n → n < k → 0 ≤ a → a ≤ 2305843009213693952 + p →
    laws_heldInt64S.l0 k l a (p : Int) = some (a + n)
  | 0, p, k, a, hn, hd, hk, h0, h1 => by
    obtain ⟨k, rfl⟩ : ∃ m, k = m + 1 := ⟨k - 1, by omega⟩
    simp only [laws_heldInt64S.l0]
    rw [if_neg (by omega)]
    simp
  | n + 1, p, k, a, hn, hd, hk, h0, h1 => by
    obtain ⟨k, rfl⟩ : ∃ m, k = m + 1 := ⟨k - 1, by omega⟩
    obtain ⟨hp, hd', hx⟩ := of_drop hd
    simp only [laws_heldInt64S.l0, rd, hx, if_true]
    rw [if_pos (by omega), if_pos (by omega), w64_id (by omega), step64 hp hl, heldInt64S_l0 l hl n (p + 1) k (a + 1) (by omega) hd' (by omega) (by omega) (by omega)]
    simp only [Option.some.injEq]
    omega

theorem heldInt64S_is (n : Nat) (hl : n ≤ 1152921504606846976) (k : Nat) (hk : n < k) : laws_heldInt64S.f k (marks 1 n) 1 = some (1 + (n : Int)) := by
  unfold laws_heldInt64S.f
  exact heldInt64S_l0 (marks 1 n) (by rw [marks_length]; exact hl) n 0 k 1 (by rw [marks_length]; simp) rfl hk (by omega) (by omega)

theorem markHullS_l0 : ∀ (n p k : Nat) (l : List S26) (a : Int), l.length ≤ 93824992236885 → l.length = p + n → n < k → 1 ≤ a → a ≤ 1 + 3 * p →
    ∃ ys : List S26, laws_markHullS.l0 k l a (p : Int) = some (a + 3 * n, ys)
  | 0, p, k, l, a, hl, hn, hk, h0, h1 => by
    obtain ⟨k, rfl⟩ : ∃ m, k = m + 1 := ⟨k - 1, by omega⟩
    refine ⟨l, ?_⟩
    simp only [laws_markHullS.l0]
    rw [if_neg (by omega)]
    simp
  | n + 1, p, k, l, a, hl, hn, hk, h0, h1 => by
    obtain ⟨k, rfl⟩ : ∃ m, k = m + 1 := ⟨k - 1, by omega⟩
    simp only [laws_markHullS.l0]
    rw [if_pos (by omega), if_pos (by omega)]
    rw [w64_id (a := a + 1) (by omega), w64_id (a := a + 1 + 1) (by omega), w64_id (a := a + 1 + 1 + 1) (by omega), step64 (show p < l.length by omega) (by omega)]
    have key : ∀ Y : List S26, Y.length = l.length → ∃ ys, laws_markHullS.l0 k Y (a + 1 + 1 + 1) ((p + 1 : Nat) : Int) = some (a + 3 * ((n + 1 : Nat) : Int), ys) := by
      intro Y hY
      obtain ⟨ys, e⟩ := markHullS_l0 n (p + 1) k Y (a + 1 + 1 + 1) (by omega) (by omega) (by omega) (by omega) (by omega)
      refine ⟨ys, ?_⟩
      rw [e]
      simp only [Option.some.injEq, Prod.mk.injEq, and_true]
      omega
    exact key _ (by simp)

theorem markHullS_is (l : List S26) (hl : l.length ≤ 93824992236885) (k : Nat) (hk : l.length < k) : ∃ ys, laws_markHullS.f k l 1 = some (1 + 3 * (l.length : Int), ys) := by
  unfold laws_markHullS.f
  exact markHullS_l0 l.length 0 k l 1 hl (by simp) hk (by omega) (by omega)

/-- The law, in plain Lean. -/
def FnExactOuterHull.Said : Prop := ∀ (l0 : List S24) (a1_0 : Int) (a1_1 : Int) (a1_2 : Int), l0.length ≤ maxLen → l0.length * 3 ≤ 140737488351232 → (∀ x ∈ l0, (Lit.int .i8 x.f0).wf = true ∧ (Lit.int .i8 x.f1).wf = true ∧ (Lit.int .i8 x.f2).wf = true) → (Lit.int .i8 a1_0).wf = true → (Lit.int .i8 a1_1).wf = true → (Lit.int .i8 a1_2).wf = true → ∃ k, laws_FnExactOuterHull.f k l0 a1_0 a1_1 a1_2 = some true

/-- What both answer. -/
def outerR (l : List S26) (h : S26) : List Int × Int := if vh h then (if codeH l = 0 then (outerFrom h 0 l, 0) else ([], codeH l)) else ([], 1)

theorem specOuter_is (l : List S26) (a b c : Int) (hl : l.length ≤ 93824992236885) (h8 : ∀ x ∈ l, In8 x) (hh : In8 ⟨a, b, c⟩) (k : Nat) (hk : l.length < k) : spec_OuterHull.f k l a b c = some (outerR l ⟨a, b, c⟩) := by
  unfold spec_OuterHull.f outerR
  rw [specValid_is a b c hh]
  simp only [Option.bind_some]
  split
  · rw [l04Asked_is l (by omega) h8 k hk]
    simp only [Option.bind_some]
    split
    · rename_i hc
      have h7 := (codeH_ok hc).1
      have := specOuter_l0 ⟨a, b, c⟩ hh l (by omega) h8 l 0 k [] rfl (by simp) hk
      simpa using this
    · rfl
  · rfl

theorem implOuter_is (l : List S26) (a b c : Int) (hl : l.length ≤ 93824992236885) (k : Nat) (hk : l.length < k) : impl_OuterHull.f k l a b c = some (outerR l ⟨a, b, c⟩) := by
  unfold impl_OuterHull.f outerR
  rw [implValid_is a b c]
  simp only [Option.bind_some]
  split
  · rename_i hv
    rw [hullsCode_is l (by omega) k hk]
    simp only [Option.bind_some]
    split
    · rename_i hc
      have h7 := (codeH_ok hc).1
      have := implOuter_l0 ⟨a, b, c⟩ hv l (by omega) (codeH_ok hc).2 l 0 k [] rfl (by simp) hk
      simpa using this
    · rfl
  · rfl

theorem outerR_length (l : List S26) (h : S26) : (outerR l h).1.length ≤ l.length := by
  unfold outerR
  repeat' split
  · exact outerFrom_length h l 0
  · simp
  · simp

theorem FnExactOuterHull : FnExactOuterHull.Said := by
  intro l a b c hm hy hok ha hb hc
  have hl : l.length ≤ 93824992236885 := by omega
  have h8 := cvH_in hok
  have hh : In8 ⟨a, b, c⟩ := ⟨i8_in ha, i8_in hb, i8_in hc⟩
  have hlm : (l.map cvH).length = l.length := List.length_map ..
  refine ⟨l.length + 4, ?_⟩
  unfold laws_FnExactOuterHull.f
  rw [szHullS_is l _ hl (by omega) (by omega)]
  simp only [Option.bind_some]
  by_cases big : (1048576 : Int) < l.length
  · rw [if_pos big]; rfl
  · rw [if_neg big, if_neg (by omega), toHullS_is l hl _ (by omega)]
    simp only [Option.bind_some, laws_toHull.f]
    have hr := outerR_length (l.map cvH) ⟨a, b, c⟩
    generalize hR : outerR (l.map cvH) ⟨a, b, c⟩ = R at hr
    rw [specOuter_is _ a b c (by omega) h8 hh _ (by omega), implOuter_is _ a b c (by omega) _ (by omega), hR]
    simp only [Option.bind_some]
    rw [eqInt64S_is _ (by omega) _ (by omega)]
    simp only [Option.bind_some, if_true, bne_self_eq_false, laws_FnExactOuterHull.j0, Bool.false_eq_true, if_false]
    rw [toHullS_is l hl _ (by omega)]
    simp only [Option.bind_some]
    rw [eqHullS_is _ (by omega) _ (by omega)]
    simp only [Option.bind_some, if_true]
    obtain ⟨ys, e⟩ := markHullS_is (l.map cvH) (by omega) (l.length + 3) (by omega)
    rw [e]
    simp only [Option.bind_some]
    rw [if_neg (by omega), eqInt64S_is _ (by omega) _ (by omega)]
    simp only [Option.bind_some, if_true, laws_FnExactOuterHull.j1, Bool.false_eq_true, if_false]
    rw [markInt64S_is _ (by omega) _ (by omega)]
    simp only [Option.bind_some]
    rw [heldInt64S_is _ (by omega) _ (by omega)]
    simp only [Option.bind_some, if_true]
    rw [if_neg (by omega), toHullS_is l hl _ (by omega)]
    simp only [Option.bind_some, laws_toHull.f]
    rw [implOuter_is _ a b c (by omega) _ (by omega), hR]
    simp only [Option.bind_some]
    rw [eqInt64S_is _ (by omega) _ (by omega)]
    simp only [Option.bind_some, if_true, bne_self_eq_false, laws_FnExactOuterHull.j2, Bool.false_eq_true, if_false]
    rw [heldInt64S_is _ (by omega) _ (by omega)]
    simp only [Option.bind_some, if_true]
    rw [if_neg (by omega)]

end Go.Proofs.Ythpfafngjlnoaaa.Pure
