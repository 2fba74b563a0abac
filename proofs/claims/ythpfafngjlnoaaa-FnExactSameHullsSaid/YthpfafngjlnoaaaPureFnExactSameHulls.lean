/- The program's SameHulls returns what the reference's SameHulls returns, for all lists of hulls (of at most 2^20 together; longer ones the law lets by). -/
import Derived.Test.YthpfafngjlnoaaaPFnExactSameHullsx3
namespace Go.Proofs.Ythpfafngjlnoaaa.Pure
open Go.RowKit Go.Proofs.Ythpfafngjlnoaaa.PFnExactSameHulls Go.Proofs.YthpfafngjlnoaaaW.PrintWords Go.Proofs.YthpfafngjlnoaaaW.PrintLast
set_option linter.unusedVariables false
set_option linter.unusedSimpArgs false

theorem of_drop {α : Type} {xs : List α} {p : Nat} {x : α} {rest : List α} (h : xs.drop p = x :: rest) : p < xs.length ∧ xs.drop (p + 1) = rest ∧ ∀ d, xs.getD ((p : Int)).toNat d = x := by
  have hp : p < xs.length := by
    rcases Nat.lt_or_ge p xs.length with h1 | h1
    · exact h1
    · rw [List.drop_eq_nil_of_le h1] at h; cases h
  rw [List.drop_eq_getElem_cons hp] at h
  injection h with h1 h2
  refine ⟨hp, h2, fun d => ?_⟩
  rw [Int.toNat_natCast, List.getD_eq_getElem?_getD, List.getElem?_eq_getElem hp]
  exact h1

theorem of_drop_nil {α : Type} {xs : List α} {p : Nat} (h : xs.drop p = []) : xs.length ≤ p := List.drop_eq_nil_iff.1 h

theorem step64 {p n : Nat} (h : p < n) (hn : n ≤ 1152921504606846976) : wrap64 ((p : Int) + 1) = ((p + 1 : Nat) : Int) := by
  unfold wrap64
  omega

theorem take_set_at {α : Type} (ys : List α) (p : Nat) (v : α) (h : p < ys.length) : (ys.set p v).take (p + 1) = ys.take p ++ [v] := by
  rw [List.take_succ_eq_append_getElem (by simpa using h), List.take_set_of_le (Nat.le_refl _)]
  simp

theorem i8_in {a : Int} (h : (Lit.int .i8 a).wf = true) : -128 ≤ a ∧ a ≤ 127 := by
  simp [Lit.wf, IntKind.min, IntKind.max, IntKind.signed, IntKind.bits] at h
  omega

theorem i64_in {a : Int} (h : (Lit.int .i64 a).wf = true) : -9223372036854775808 ≤ a ∧ a ≤ 9223372036854775807 := by
  simp [Lit.wf, IntKind.min, IntKind.max, IntKind.signed, IntKind.bits] at h
  omega

theorem w64_id {a : Int} (h : -9223372036854775808 ≤ a ∧ a ≤ 9223372036854775807) : wrap64 a = a := by
  unfold wrap64
  omega

theorem w8_cases (a : Int) : IntKind.i8.wrap a = if a % 256 ≥ 128 then a % 256 - 256 else a % 256 := by
  simp [IntKind.wrap, IntKind.signed, IntKind.bits]

theorem some_dec {p q : Prop} [Decidable p] [Decidable q] (h : p ↔ q) : some (decide p) = some (decide q) := by rw [decide_eq_decide.2 h]
theorem some_decF {q : Prop} [Decidable q] (h : ¬ q) : some false = some (decide q) := by rw [decide_eq_false h]
theorem some_decT {q : Prop} [Decidable q] (h : q) : some true = some (decide q) := by rw [decide_eq_true h]

/-- A hull that is valid. -/
def vh (x : S26) : Bool := decide (1 ≤ x.f0 ∧ x.f0 ≤ 40 ∧ 1 ≤ x.f1 ∧ x.f1 ≤ 100 ∧ 1 ≤ x.f2 ∧ x.f2 ≤ 20)
def In8 (x : S26) : Prop := (-128 ≤ x.f0 ∧ x.f0 ≤ 127) ∧ (-128 ≤ x.f1 ∧ x.f1 ≤ 127) ∧ (-128 ≤ x.f2 ∧ x.f2 ≤ 127)

def cvH (x : S24) : S26 := ⟨x.f0, x.f1, x.f2⟩

theorem toHullS_l0 (l : List S24) (hl : l.length ≤ 1152921504606846976) : ∀ (rest : List S24) (p k : Nat) (ys : List S26), l.drop p = rest → ys.length = l.length → rest.length < k →
    laws_toHullS.l0 k l ys (p : Int) = some (ys.take p ++ rest.map cvH) := by
  intro rest
  induction rest with
  | nil =>
    intro p k ys hd hy hk
    obtain ⟨k, rfl⟩ : ∃ m, k = m + 1 := ⟨k - 1, by simp at hk; omega⟩
    have := of_drop_nil hd
    simp only [laws_toHullS.l0]
    rw [if_neg (by omega), List.take_of_length_le (by omega)]
    simp
  | cons x rest ih =>
    intro p k ys hd hy hk
    simp only [List.length_cons] at hk
    obtain ⟨k, rfl⟩ : ∃ m, k = m + 1 := ⟨k - 1, by omega⟩
    obtain ⟨hp, hd', hx⟩ := of_drop hd
    simp only [laws_toHullS.l0, laws_toHull.f, rd_T24, hx, Option.bind_some]
    rw [if_pos (by omega), if_pos (by omega), if_pos (by omega), step64 hp hl, ih (p + 1) k _ hd' (by simpa using hy) (by omega), Int.toNat_natCast, take_set_at _ _ _ (by omega)]
    simp [cvH]

theorem toHullS_is (l : List S24) (hl : l.length ≤ 93824992236885) (k : Nat) (hk : l.length < k) : laws_toHullS.f k l = some (l.map cvH) := by
  unfold laws_toHullS.f
  rw [if_pos (by omega), if_pos (by omega)]
  have := toHullS_l0 l (by omega) l 0 k (List.replicate (l.length : Int).toNat z26) rfl (by simp) hk
  simpa using this

theorem cvH_in {l : List S24} (h : ∀ x ∈ l, (Lit.int .i8 x.f0).wf = true ∧ (Lit.int .i8 x.f1).wf = true ∧ (Lit.int .i8 x.f2).wf = true) : ∀ x ∈ l.map cvH, In8 x := by
  intro x hx
  obtain ⟨y, hy, rfl⟩ := List.mem_map.1 hx
  exact ⟨i8_in (h y hy).1, i8_in (h y hy).2.1, i8_in (h y hy).2.2⟩

theorem eqHullS_l0 (l : List S26) (hl : l.length ≤ 1152921504606846976) : ∀ (rest : List S26) (p k : Nat), l.drop p = rest → rest.length < k → laws_eqHullS.l0 k l l (p : Int) = some true := by
  intro rest
  induction rest with
  | nil =>
    intro p k hd hk
    obtain ⟨k, rfl⟩ : ∃ m, k = m + 1 := ⟨k - 1, by simp at hk; omega⟩
    have := of_drop_nil hd
    simp only [laws_eqHullS.l0]
    rw [if_neg (by omega)]
  | cons x rest ih =>
    intro p k hd hk
    simp only [List.length_cons] at hk
    obtain ⟨k, rfl⟩ : ∃ m, k = m + 1 := ⟨k - 1, by omega⟩
    obtain ⟨hp, hd', hx⟩ := of_drop hd
    simp only [laws_eqHullS.l0, laws_eqHull.f, if_true, Option.bind_some]
    rw [if_pos (by omega), if_pos (by omega), if_pos (by omega), step64 hp hl]
    exact ih (p + 1) k hd' (by omega)

theorem eqHullS_is (l : List S26) (hl : l.length ≤ 1152921504606846976) (k : Nat) (hk : l.length < k) : laws_eqHullS.f k l l = some true := by
  unfold laws_eqHullS.f
  rw [if_pos rfl]
  exact eqHullS_l0 l hl l 0 k rfl hk

theorem szHullS_is (l : List S24) (a : Int) (hl : l.length ≤ 93824992236885) (h0 : 0 ≤ a) (h1 : a ≤ 1048576) : laws_szHullS.f l a = some (if a < l.length then -1 else a - l.length) := by
  unfold laws_szHullS.f
  rw [w64_id (by omega)]
  by_cases h : a < l.length
  · rw [if_pos (by omega), if_pos h]
  · rw [if_neg (by omega), if_neg h]

/-- The law, in plain Lean. -/
def FnExactSameHulls.Said : Prop := ∀ (l0 : List S24) (l1 : List S24), l0.length ≤ maxLen → l0.length * 3 ≤ 140737488351232 → (∀ x ∈ l0, (Lit.int .i8 x.f0).wf = true ∧ (Lit.int .i8 x.f1).wf = true ∧ (Lit.int .i8 x.f2).wf = true) → l1.length ≤ maxLen → l1.length * 3 ≤ 140737488351232 → (∀ x ∈ l1, (Lit.int .i8 x.f0).wf = true ∧ (Lit.int .i8 x.f1).wf = true ∧ (Lit.int .i8 x.f2).wf = true) → ∃ k, laws_FnExactSameHulls.f k l0 l1 = some true

def same3 (x y : S26) : Bool := !(!(x.f0 == y.f0) || (!(x.f1 == y.f1) || !(x.f2 == y.f2)))

def sameH : List S26 → List S26 → Bool
  | x :: xs, y :: ys => same3 x y && sameH xs ys
  | _, _ => true

theorem specSame_l0 (a b : List S26) (hab : a.length = b.length) (hl : a.length ≤ 1152921504606846976) : ∀ (rest rest' : List S26) (p k : Nat), a.drop p = rest → b.drop p = rest' → rest.length < k →
    spec_SameHulls.l0 k a b (p : Int) = some (sameH rest rest') := by
  intro rest
  induction rest with
  | nil =>
    intro rest' p k hd hd' hk
    obtain ⟨k, rfl⟩ : ∃ m, k = m + 1 := ⟨k - 1, by simp at hk; omega⟩
    have := of_drop_nil hd
    simp only [spec_SameHulls.l0, sameH]
    rw [if_neg (by omega)]
  | cons x rest ih =>
    intro rest' p k hd hd' hk
    simp only [List.length_cons] at hk
    obtain ⟨k, rfl⟩ : ∃ m, k = m + 1 := ⟨k - 1, by omega⟩
    obtain ⟨hp, h1, hx⟩ := of_drop hd
    cases rest' with
    | nil => have := of_drop_nil hd'; omega
    | cons y rest' =>
      obtain ⟨hp', h1', hy⟩ := of_drop hd'
      simp only [spec_SameHulls.l0, rd_T26, hx, hy, sameH, same3]
      rw [if_pos (by omega), if_pos (by omega), if_pos (by omega), step64 hp hl, ih rest' (p + 1) k h1 h1' (by omega)]
      cases h : (!(x.f0 == y.f0) || (!(x.f1 == y.f1) || !(x.f2 == y.f2))) <;> simp

theorem implSame_l0 (a b : List S26) (hab : a.length = b.length) (hl : a.length ≤ 1152921504606846976) : ∀ (rest rest' : List S26) (p k : Nat), a.drop p = rest → b.drop p = rest' → rest.length < k →
    impl_Hull.l0 k a b (a.length : Int) (p : Int) = some (sameH rest rest') := by
  intro rest
  induction rest with
  | nil =>
    intro rest' p k hd hd' hk
    obtain ⟨k, rfl⟩ : ∃ m, k = m + 1 := ⟨k - 1, by simp at hk; omega⟩
    have := of_drop_nil hd
    simp only [impl_Hull.l0, sameH]
    rw [if_neg (by omega)]
  | cons x rest ih =>
    intro rest' p k hd hd' hk
    simp only [List.length_cons] at hk
    obtain ⟨k, rfl⟩ : ∃ m, k = m + 1 := ⟨k - 1, by omega⟩
    obtain ⟨hp, h1, hx⟩ := of_drop hd
    cases rest' with
    | nil => have := of_drop_nil hd'; omega
    | cons y rest' =>
      obtain ⟨hp', h1', hy⟩ := of_drop hd'
      simp only [impl_Hull.l0, rd_T26, hx, hy, sameH, same3]
      rw [if_pos (by omega), if_pos (by omega), if_pos (by omega), if_pos (by omega), step64 hp hl, ih rest' (p + 1) k h1 h1' (by omega)]
      cases h : (!(x.f0 == y.f0) || (!(x.f1 == y.f1) || !(x.f2 == y.f2))) <;> simp

theorem same_agree (a b : List S26) (hl : a.length ≤ 1152921504606846976) (k : Nat) (hk : a.length < k) : ∃ r, spec_SameHulls.f k a b = some r ∧ impl_SameHulls.f k a b = some r := by
  unfold spec_SameHulls.f impl_SameHulls.f impl_Hull.f
  by_cases h : (a.length : Int) = b.length
  · have e1 := specSame_l0 a b (by omega) hl a b 0 k rfl rfl hk
    have e2 := implSame_l0 a b (by omega) hl a b 0 k rfl rfl hk
    refine ⟨sameH a b, ?_, ?_⟩
    · rw [if_pos h]; exact e1
    · rw [if_pos h]
      have e2' : impl_Hull.l0 k a b (a.length : Int) 0 = some (sameH a b) := e2
      rw [e2']; rfl
  · exact ⟨false, by rw [if_neg h], by rw [if_neg h]; rfl⟩

theorem FnExactSameHulls : FnExactSameHulls.Said := by
  intro l l' hm hy hok hm' hy' hok'
  have hl : l.length ≤ 93824992236885 := by omega
  have hl' : l'.length ≤ 93824992236885 := by omega
  have hlm : (l.map cvH).length = l.length := List.length_map ..
  have hlm' : (l'.map cvH).length = l'.length := List.length_map ..
  refine ⟨l.length + l'.length + 2, ?_⟩
  unfold laws_FnExactSameHulls.f
  rw [szHullS_is l _ hl (by omega) (by omega)]
  simp only [Option.bind_some]
  by_cases big : (1048576 : Int) < l.length
  · rw [if_pos big]; rfl
  · rw [if_neg big, if_neg (by omega), szHullS_is l' _ hl' (by omega) (by omega)]
    simp only [Option.bind_some]
    by_cases big' : (1048576 : Int) - l.length < l'.length
    · rw [if_pos big']; rfl
    · rw [if_neg big', if_neg (by omega), toHullS_is l hl _ (by omega), toHullS_is l' hl' _ (by omega)]
      simp only [Option.bind_some]
      obtain ⟨r, e1, e2⟩ := same_agree (l.map cvH) (l'.map cvH) (by omega) (l.length + l'.length + 2) (by omega)
      rw [e1, e2]
      simp only [Option.bind_some, bne_self_eq_false]
      rw [if_neg (by simp), eqHullS_is _ (by omega) _ (by omega)]
      simp only [Option.bind_some, if_true]
      rw [eqHullS_is _ (by omega) _ (by omega)]
      rfl

end Go.Proofs.Ythpfafngjlnoaaa.Pure
