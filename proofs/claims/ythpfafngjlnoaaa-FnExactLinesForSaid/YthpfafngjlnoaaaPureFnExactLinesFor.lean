/- The program's LinesFor returns what the reference's LinesFor returns, for every list of hulls (of at most 2^20; longer ones the law lets by). -/
import Derived.Test.YthpfafngjlnoaaaPFnExactLinesForx4
namespace Go.Proofs.Ythpfafngjlnoaaa.Pure
open Go.RowKit Go.Proofs.Ythpfafngjlnoaaa.PFnExactLinesFor Go.Proofs.YthpfafngjlnoaaaW.PrintWords Go.Proofs.YthpfafngjlnoaaaW.PrintLast Go.Proofs.YthpfafngjlnoaaaW.PrintMore
set_option linter.unusedVariables false
set_option linter.unusedSimpArgs false

theorem of_drop {α : Type} {xs : List α} {p : Nat} {x : α} {rest : List α} (h : xs.drop p = x :: rest) : p < xs.length ∧ xs.drop (p + 1) = rest ∧ ∀ d, xs.getD ((p : Int)).toNat d = x := by
  have hp : p < xs.length := by
    rcases Nat.lt_or_ge p xs.length with h1 | h1
    · exact h1
    · rw [List.drop_eq_nil_of_le h1] at h; cases h
  rw [List.drop_eq_getElem_cons hp] at h
  injection h with h1 h2
  refine ⟨hp, h2, fun d => ?_⟩
  rw [Int.toNat_natCast, List.getD_eq_getElem?_getD, List.getElem?_eq_getElem hp]
  exact h1

theorem of_drop_nil {α : Type} {xs : List α} {p : Nat} (h : xs.drop p = []) : xs.length ≤ p := List.drop_eq_nil_iff.1 h

theorem step64 {p n : Nat} (h : p < n) (hn : n ≤ 1152921504606846976) : wrap64 ((p : Int) + 1) = ((p + 1 : Nat) : Int) := by
  unfold wrap64
  omega

theorem take_set_at {α : Type} (ys : List α) (p : Nat) (v : α) (h : p < ys.length) : (ys.set p v).take (p + 1) = ys.take p ++ [v] := by
  rw [List.take_succ_eq_append_getElem (by simpa using h), List.take_set_of_le (Nat.le_refl _)]
  simp

theorem i8_in {a : Int} (h : (Lit.int .i8 a).wf = true) : -128 ≤ a ∧ a ≤ 127 := by
  simp [Lit.wf, IntKind.min, IntKind.max, IntKind.signed, IntKind.bits] at h
  omega

theorem i64_in {a : Int} (h : (Lit.int .i64 a).wf = true) : -9223372036854775808 ≤ a ∧ a ≤ 9223372036854775807 := by
  simp [Lit.wf, IntKind.min, IntKind.max, IntKind.signed, IntKind.bits] at h
  omega

theorem w64_id {a : Int} (h : -9223372036854775808 ≤ a ∧ a ≤ 9223372036854775807) : wrap64 a = a := by
  unfold wrap64
  omega

theorem w8_cases (a : Int) : IntKind.i8.wrap a = if a % 256 ≥ 128 then a % 256 - 256 else a % 256 := by
  simp [IntKind.wrap, IntKind.signed, IntKind.bits]

theorem some_dec {p q : Prop} [Decidable p] [Decidable q] (h : p ↔ q) : some (decide p) = some (decide q) := by rw [decide_eq_decide.2 h]
theorem some_decF {q : Prop} [Decidable q] (h : ¬ q) : some false = some (decide q) := by rw [decide_eq_false h]
theorem some_decT {q : Prop} [Decidable q] (h : q) : some true = some (decide q) := by rw [decide_eq_true h]

/-- A hull that is valid. -/
def vh (x : S26) : Bool := decide (1 ≤ x.f0 ∧ x.f0 ≤ 40 ∧ 1 ≤ x.f1 ∧ x.f1 ≤ 100 ∧ 1 ≤ x.f2 ∧ x.f2 ≤ 20)
def In8 (x : S26) : Prop := (-128 ≤ x.f0 ∧ x.f0 ≤ 127) ∧ (-128 ≤ x.f1 ∧ x.f1 ≤ 127) ∧ (-128 ≤ x.f2 ∧ x.f2 ≤ 127)

def cvH (x : S24) : S26 := ⟨x.f0, x.f1, x.f2⟩

theorem toHullS_l0 (l : List S24) (hl : l.length ≤ 1152921504606846976) : ∀ (rest : List S24) (p k : Nat) (ys : List S26), l.drop p = rest → ys.length = l.length → rest.length < k →
    laws_toHullS.l0 k l ys (p : Int) = some (ys.take p ++ rest.map cvH) := by
  intro rest
  induction rest with
  | nil =>
    intro p k ys hd hy hk
    obtain ⟨k, rfl⟩ : ∃ m, k = m + 1 := ⟨k - 1, by simp at hk; omega⟩
    have := of_drop_nil hd
    simp only [laws_toHullS.l0]
    rw [if_neg (by omega), List.take_of_length_le (by omega)]
    simp
  | cons x rest ih =>
    intro p k ys hd hy hk
    simp only [List.length_cons] at hk
    obtain ⟨k, rfl⟩ : ∃ m, k = m + 1 := ⟨k - 1, by omega⟩
    obtain ⟨hp, hd', hx⟩ := of_drop hd
    simp only [laws_toHullS.l0, laws_toHull.f, rd_T24, hx, Option.bind_some]
    rw [if_pos (by omega), if_pos (by omega), if_pos (by omega), step64 hp hl, ih (p + 1) k _ hd' (by simpa using hy) (by omega), Int.toNat_natCast, take_set_at _ _ _ (by omega)]
    simp [cvH]

theorem toHullS_is (l : List S24) (hl : l.length ≤ 93824992236885) (k : Nat) (hk : l.length < k) : laws_toHullS.f k l = some (l.map cvH) := by
  unfold laws_toHullS.f
  rw [if_pos (by omega), if_pos (by omega)]
  have := toHullS_l0 l (by omega) l 0 k (List.replicate (l.length : Int).toNat z26) rfl (by simp) hk
  simpa using this

theorem cvH_in {l : List S24} (h : ∀ x ∈ l, (Lit.int .i8 x.f0).wf = true ∧ (Lit.int .i8 x.f1).wf = true ∧ (Lit.int .i8 x.f2).wf = true) : ∀ x ∈ l.map cvH, In8 x := by
  intro x hx
  obtain ⟨y, hy, rfl⟩ := List.mem_map.1 hx
  exact ⟨i8_in (h y hy).1, i8_in (h y hy).2.1, i8_in (h y hy).2.2⟩

theorem eqHullS_l0 (l : List S26) (hl : l.length ≤ 1152921504606846976) : ∀ (rest : List S26) (p k : Nat), l.drop p = rest → rest.length < k → laws_eqHullS.l0 k l l (p : Int) = some true := by
  intro rest
  induction rest with
  | nil =>
    intro p k hd hk
    obtain ⟨k, rfl⟩ : ∃ m, k = m + 1 := ⟨k - 1, by simp at hk; omega⟩
    have := of_drop_nil hd
    simp only [laws_eqHullS.l0]
    rw [if_neg (by omega)]
  | cons x rest ih =>
    intro p k hd hk
    simp only [List.length_cons] at hk
    obtain ⟨k, rfl⟩ : ∃ m, k = m + 1 := ⟨k - 1, by omega⟩
    obtain ⟨hp, hd', hx⟩ := of_drop hd
    simp only [laws_eqHullS.l0, laws_eqHull.f, if_true, Option.bind_some]
    rw [if_pos (by omega), if_pos (by omega), if_pos (by omega), step64 hp hl]
    exact ih (p + 1) k hd' (by omega)

theorem eqHullS_is (l : List S26) (hl : l.length ≤ 1152921504606846976) (k : Nat) (hk : l.length < k) : laws_eqHullS.f k l l = some true := by
  unfold laws_eqHullS.f
  rw [if_pos rfl]
  exact eqHullS_l0 l hl l 0 k rfl hk

theorem szHullS_is (l : List S24) (a : Int) (hl : l.length ≤ 93824992236885) (h0 : 0 ≤ a) (h1 : a ≤ 1048576) : laws_szHullS.f l a = some (if a < l.length then -1 else a - l.length) := by
  unfold laws_szHullS.f
  rw [w64_id (by omega)]
  by_cases h : a < l.length
  · rw [if_pos (by omega), if_pos h]
  · rw [if_neg (by omega), if_neg h]

theorem implValid_is (a b c : Int) : impl_ValidHull.f a b c = some (vh ⟨a, b, c⟩) := by
  unfold impl_ValidHull.f
  show _ = some (decide (1 ≤ a ∧ a ≤ 40 ∧ 1 ≤ b ∧ b ≤ 100 ∧ 1 ≤ c ∧ c ≤ 20))
  repeat' split
  all_goals first | exact some_dec (by omega) | exact some_decF (by omega)

theorem l00In_is (a lo hi : Int) : spec_l00In.f a lo hi = some (decide (lo ≤ a ∧ a ≤ hi)) := by
  unfold spec_l00In.f
  repeat' split
  all_goals first | exact some_dec (by omega) | exact some_decF (by omega)

theorem vh_and (x : S26) : vh x = (decide (1 ≤ x.f0 ∧ x.f0 ≤ 40) && (decide (1 ≤ x.f1 ∧ x.f1 ≤ 100) && decide (1 ≤ x.f2 ∧ x.f2 ≤ 20))) := by
  unfold vh
  rw [← Bool.decide_and, ← Bool.decide_and]
  exact decide_eq_decide.2 (by omega)

theorem specValid_is (a b c : Int) (h : In8 ⟨a, b, c⟩) : spec_l04Hull.f a b c = some (vh ⟨a, b, c⟩) := by
  obtain ⟨h0, h1, h2⟩ := h
  simp only at h0 h1 h2
  unfold spec_l04Hull.f
  rw [w64_id (by omega), w64_id (by omega), w64_id (by omega), l00In_is, l00In_is, l00In_is, vh_and]
  simp only [Option.bind_some]
  cases decide (1 ≤ a ∧ a ≤ 40) <;> cases decide (1 ≤ b ∧ b ≤ 100) <;> rfl

def codeH (l : List S26) : Int := if l.all vh then (if l.length > 7 then 3 else 0) else 1

theorem hullsCode_l0 (l : List S26) (hl : l.length ≤ 1152921504606846976) : ∀ (rest : List S26) (p k : Nat), l.drop p = rest → rest.length < k →
    impl_hullsCode.l0 k l l (l.length : Int) (p : Int) = some (if rest.all vh then (if l.length > 7 then 3 else 0) else 1) := by
  intro rest
  induction rest with
  | nil =>
    intro p k hd hk
    obtain ⟨k, rfl⟩ : ∃ m, k = m + 1 := ⟨k - 1, by simp at hk; omega⟩
    have := of_drop_nil hd
    simp only [impl_hullsCode.l0]
    rw [if_neg (by omega)]
    by_cases h : l.length > 7
    · rw [if_pos (by omega)]; simp [h]
    · rw [if_neg (by omega)]; simp [h]
  | cons x rest ih =>
    intro p k hd hk
    simp only [List.length_cons] at hk
    obtain ⟨k, rfl⟩ : ∃ m, k = m + 1 := ⟨k - 1, by omega⟩
    obtain ⟨hp, hd', hx⟩ := of_drop hd
    simp only [impl_hullsCode.l0, rd_T26, hx, implValid_is, Option.bind_some]
    rw [if_pos (by omega), if_pos (by omega), if_pos (by omega), step64 hp hl, ih (p + 1) k hd' (by omega)]
    cases hv : vh x <;> simp [hv]

theorem hullsCode_is (l : List S26) (hl : l.length ≤ 1152921504606846976) (k : Nat) (hk : l.length < k) : impl_hullsCode.f k l = some (codeH l) := by
  unfold impl_hullsCode.f codeH
  exact hullsCode_l0 l hl l 0 k rfl hk

theorem l04Asked_l0 (l : List S26) (hl : l.length ≤ 1152921504606846976) (h8 : ∀ x ∈ l, In8 x) : ∀ (rest : List S26) (p k : Nat), l.drop p = rest → rest.length < k →
    spec_l04Asked.l0 k l (p : Int) = some (if rest.all vh then (if l.length > 7 then 3 else 0) else 1) := by
  intro rest
  induction rest with
  | nil =>
    intro p k hd hk
    obtain ⟨k, rfl⟩ : ∃ m, k = m + 1 := ⟨k - 1, by simp at hk; omega⟩
    have := of_drop_nil hd
    simp only [spec_l04Asked.l0]
    rw [if_neg (by omega)]
    by_cases h : l.length > 7
    · rw [if_pos (by omega)]; simp [h]
    · rw [if_neg (by omega)]; simp [h]
  | cons x rest ih =>
    intro p k hd hk
    simp only [List.length_cons] at hk
    obtain ⟨k, rfl⟩ : ∃ m, k = m + 1 := ⟨k - 1, by omega⟩
    obtain ⟨hp, hd', hx⟩ := of_drop hd
    have hx8 : In8 x := h8 x (List.mem_of_mem_drop (by rw [hd]; exact List.mem_cons_self))
    simp only [spec_l04Asked.l0, rd_T26, hx, specValid_is _ _ _ hx8, Option.bind_some]
    rw [if_pos (by omega), if_pos (by omega), step64 hp hl, ih (p + 1) k hd' (by omega)]
    cases hv : vh x <;> simp [hv]

theorem l04Asked_is (l : List S26) (hl : l.length ≤ 1152921504606846976) (h8 : ∀ x ∈ l, In8 x) (k : Nat) (hk : l.length < k) : spec_l04Asked.f k l = some (codeH l) := by
  unfold spec_l04Asked.f codeH
  exact l04Asked_l0 l hl h8 l 0 k rfl hk

theorem codeH_ok {l : List S26} (h : codeH l = 0) : l.length ≤ 7 ∧ ∀ x ∈ l, vh x = true := by
  unfold codeH at h
  split at h
  · rename_i ha
    split at h
    · cases h
    · exact ⟨by omega, by simpa using ha⟩
  · cases h

/-- What the laws over one list of hulls have in common. -/
theorem wf_in {l : List S24} (hy : l.length * 3 ≤ 140737488351232) : l.length ≤ 93824992236885 := by omega

def may (x y : S26) : Bool := decide (x.f2 - y.f2 ≤ 2 ∧ y.f2 - x.f2 ≤ 2 ∧ y.f1 ≤ x.f1 + 3)

theorem specMay_is (x y : S26) (hx : In8 x) (hy : In8 y) : spec_l04May.f x.f0 x.f1 x.f2 y.f0 y.f1 y.f2 = some (may x y) := by
  obtain ⟨_, x1, x2⟩ := hx
  obtain ⟨_, y1, y2⟩ := hy
  unfold spec_l04May.f may
  rw [w64_id (a := x.f2) (by omega), w64_id (a := y.f2) (by omega), w64_id (a := x.f1) (by omega), w64_id (a := y.f1) (by omega), w64_id (by omega), w64_id (by omega)]
  repeat' split
  all_goals first | exact some_dec (by omega) | exact some_decF (by omega)

/-- The program takes the difference of the heights as an int8: with valid hulls nothing wraps. -/
theorem implMay_is (x y : S26) (hx : vh x = true) (hy : vh y = true) : impl_mayLie.f x.f0 x.f1 x.f2 y.f0 y.f1 y.f2 = some (may x y) := by
  simp only [vh, decide_eq_true_eq] at hx hy
  unfold impl_mayLie.f may
  have e : IntKind.i8.wrap (x.f2 - y.f2) = x.f2 - y.f2 := by
    rw [w8_cases]
    split <;> omega
  rw [e, w64_id (a := x.f1) (by omega), w64_id (a := y.f1) (by omega), w64_id (by omega)]
  repeat' split
  all_goals first | exact some_dec (by omega) | exact some_decF (by omega)

/-- The first hull that may not lie where it lies, from place i on. -/
def wrongFrom : Int → S26 → List S26 → Int
  | _, _, [] => -1
  | i, x, y :: r => if may x y then wrongFrom (i + 1) y r else i
def wrongH : List S26 → Int
  | [] => -1
  | x :: r => wrongFrom 1 x r

theorem wrongFrom_ge (r : List S26) : ∀ (i : Int) (x : S26), 0 ≤ i → -1 ≤ wrongFrom i x r ∧ wrongFrom i x r < i + r.length ∨ wrongFrom i x r = -1 := by
  induction r with
  | nil => intro i x _; right; rfl
  | cons y r ih =>
    intro i x h0
    simp only [wrongFrom, List.length_cons]
    split
    · rcases ih (i + 1) y (by omega) with h | h
      · left; omega
      · right; exact h
    · left; omega

theorem wrong_l0 (l : List S26) (hl : l.length ≤ 1152921504606846976) (hv : ∀ x ∈ l, vh x = true) : ∀ (rest : List S26) (x : S26) (p k : Nat), l.drop p = x :: rest → rest.length < k →
    impl_wrong.l0 k l ((p + 1 : Nat) : Int) = some (wrongFrom ((p + 1 : Nat) : Int) x rest) := by
  intro rest
  induction rest with
  | nil =>
    intro x p k hd hk
    obtain ⟨k, rfl⟩ : ∃ m, k = m + 1 := ⟨k - 1, by simp at hk; omega⟩
    obtain ⟨hp, hd', hx⟩ := of_drop hd
    have := of_drop_nil hd'
    simp only [impl_wrong.l0, wrongFrom]
    rw [if_neg (by omega)]
  | cons y rest ih =>
    intro x p k hd hk
    simp only [List.length_cons] at hk
    obtain ⟨k, rfl⟩ : ∃ m, k = m + 1 := ⟨k - 1, by omega⟩
    obtain ⟨hp, hd', hx⟩ := of_drop hd
    obtain ⟨hp', hd'', hy⟩ := of_drop hd'
    have vx := hv x (List.mem_of_mem_drop (by rw [hd]; exact List.mem_cons_self))
    have vy := hv y (List.mem_of_mem_drop (by rw [hd']; exact List.mem_cons_self))
    have e1 : wrap64 (((p + 1 : Nat) : Int) - 1) = (p : Int) := by rw [w64_id (by omega)]; omega
    simp only [impl_wrong.l0, e1, rd_T26, hx, hy, implMay_is x y vx vy, Option.bind_some, wrongFrom]
    rw [if_pos (by omega), if_pos (by omega), if_pos (by omega), if_pos (by omega), step64 hp' hl]
    rw [ih y (p + 1) k hd' (by omega)]
    cases may x y <;> simp [w64_id] <;> rfl

theorem wrong_is (l : List S26) (hl : l.length ≤ 1152921504606846976) (hv : ∀ x ∈ l, vh x = true) (k : Nat) (hk : l.length < k) : impl_wrong.f k l = some (wrongH l) := by
  unfold impl_wrong.f
  cases l with
  | nil =>
    obtain ⟨k, rfl⟩ : ∃ m, k = m + 1 := ⟨k - 1, by simp at hk; omega⟩
    simp only [impl_wrong.l0]
    rw [if_neg (by simp)]
    rfl
  | cons x r =>
    have := wrong_l0 (x :: r) hl hv r x 0 k rfl (by simp at hk; omega)
    simpa [wrongH] using this

theorem l04Wrong_l0 (l : List S26) (hl : l.length ≤ 1152921504606846976) (hv : ∀ x ∈ l, In8 x) : ∀ (rest : List S26) (x : S26) (p k : Nat), l.drop p = x :: rest → rest.length < k →
    spec_l04Wrong.l0 k l ((p + 1 : Nat) : Int) = some (wrongFrom ((p + 1 : Nat) : Int) x rest) := by
  intro rest
  induction rest with
  | nil =>
    intro x p k hd hk
    obtain ⟨k, rfl⟩ : ∃ m, k = m + 1 := ⟨k - 1, by simp at hk; omega⟩
    obtain ⟨hp, hd', hx⟩ := of_drop hd
    have := of_drop_nil hd'
    simp only [spec_l04Wrong.l0, wrongFrom]
    rw [if_neg (by omega)]
  | cons y rest ih =>
    intro x p k hd hk
    simp only [List.length_cons] at hk
    obtain ⟨k, rfl⟩ : ∃ m, k = m + 1 := ⟨k - 1, by omega⟩
    obtain ⟨hp, hd', hx⟩ := of_drop hd
    obtain ⟨hp', hd'', hy⟩ := of_drop hd'
    have vx := hv x (List.mem_of_mem_drop (by rw [hd]; exact List.mem_cons_self))
    have vy := hv y (List.mem_of_mem_drop (by rw [hd']; exact List.mem_cons_self))
    have e1 : wrap64 (((p + 1 : Nat) : Int) - 1) = (p : Int) := by rw [w64_id (by omega)]; omega
    simp only [spec_l04Wrong.l0, e1, rd_T26, hx, hy, specMay_is x y vx vy, Option.bind_some, wrongFrom]
    rw [if_pos (by omega), if_pos (by omega), if_pos (by omega), if_pos (by omega), step64 hp' hl]
    rw [ih y (p + 1) k hd' (by omega)]
    cases may x y <;> simp [w64_id] <;> rfl

theorem l04Wrong_is (l : List S26) (hl : l.length ≤ 1152921504606846976) (hv : ∀ x ∈ l, In8 x) (k : Nat) (hk : l.length < k) : spec_l04Wrong.f k l = some (wrongH l) := by
  unfold spec_l04Wrong.f
  cases l with
  | nil =>
    obtain ⟨k, rfl⟩ : ∃ m, k = m + 1 := ⟨k - 1, by simp at hk; omega⟩
    simp only [spec_l04Wrong.l0]
    rw [if_neg (by simp)]
    rfl
  | cons x r =>
    have := l04Wrong_l0 (x :: r) hl hv r x 0 k rfl (by simp at hk; omega)
    simpa [wrongH] using this

theorem vh_in8 {x : S26} (h : vh x = true) : In8 x := by
  simp only [vh, decide_eq_true_eq] at h
  exact ⟨by omega, by omega, by omega⟩

/-- The law, in plain Lean. -/
def FnExactLinesFor.Said : Prop := ∀ (l0 : List S24), l0.length ≤ maxLen → l0.length * 3 ≤ 140737488351232 → (∀ x ∈ l0, (Lit.int .i8 x.f0).wf = true ∧ (Lit.int .i8 x.f1).wf = true ∧ (Lit.int .i8 x.f2).wf = true) → ∃ k, laws_FnExactLinesFor.f k l0 = some true

/-- Lines of the hulls from place i on, with the longest so far. -/
def linesFrom : Nat → Int → List S26 → Int
  | _, _, [] => 0
  | i, m, x :: r => (if 0 < i ∧ x.f1 > m then 4 else 2) + linesFrom (i + 1) (if x.f1 > m then x.f1 else m) r

theorem specLines_l0 (l : List S26) (hl : l.length ≤ 93824992236885) : ∀ (rest : List S26) (p k : Nat) (a m : Int), l.drop p = rest → 2 * rest.length < k → 0 ≤ a → a ≤ 4 * p →
    spec_LinesFor.l0 k l a m (p : Int) = some (a + linesFrom p m rest, 0) := by
  intro rest
  induction rest with
  | nil =>
    intro p k a m hd hk h0 h1
    obtain ⟨k, rfl⟩ : ∃ m, k = m + 1 := ⟨k - 1, by simp at hk; omega⟩
    have := of_drop_nil hd
    simp only [spec_LinesFor.l0, linesFrom]
    rw [if_neg (by omega)]
    simp
  | cons x rest ih =>
    intro p k a m hd hk h0 h1
    simp only [List.length_cons] at hk
    obtain ⟨k, rfl⟩ : ∃ m, k = m + 2 := ⟨k - 2, by omega⟩
    obtain ⟨hp, hd', hx⟩ := of_drop hd
    simp only [spec_LinesFor.l0, spec_LinesFor.j3, rd_T26, hx, linesFrom]
    rw [if_pos (by omega), w64_id (a := a + 2) (by omega), step64 hp (by omega)]
    by_cases hi : (p : Int) > 0
    · rw [if_pos hi, if_pos (by omega)]
      by_cases hm : x.f1 > m
      · rw [if_pos (by simpa using hm), if_pos (by omega), if_pos (by omega), if_pos hm, if_pos hm, if_pos ⟨by omega, hm⟩, w64_id (by omega), ih (p + 1) k _ _ hd' (by omega) (by omega) (by omega)]
        simp only [Option.some.injEq, Prod.mk.injEq, and_true]; omega
      · rw [if_neg (by simpa using hm), if_pos (by omega), if_pos (by omega), if_neg hm, if_neg hm, if_neg (by omega), ih (p + 1) k _ _ hd' (by omega) (by omega) (by omega)]
        simp only [Option.some.injEq, Prod.mk.injEq, and_true]; omega
    · rw [if_neg hi, if_neg (by simp), if_pos (by omega), if_pos (by omega)]
      by_cases hm : x.f1 > m
      · rw [if_pos hm, if_pos hm, if_neg (by omega), ih (p + 1) k _ _ hd' (by omega) (by omega) (by omega)]
        simp only [Option.some.injEq, Prod.mk.injEq, and_true]; omega
      · rw [if_neg hm, if_neg hm, if_neg (by omega), ih (p + 1) k _ _ hd' (by omega) (by omega) (by omega)]
        simp only [Option.some.injEq, Prod.mk.injEq, and_true]; omega

theorem mx_if (a b : Int) : mx a b = if b > a then b else a := rfl

theorem implLines_l0 (l : List S26) (hl : l.length ≤ 93824992236885) : ∀ (rest : List S26) (p k : Nat) (a m : Int), l.drop p = rest → rest.length < k → 0 ≤ a → a ≤ 4 * p →
    impl_LinesFor.l0 k a m l (l.length : Int) (p : Int) = some (a + linesFrom p m rest, 0) := by
  intro rest
  induction rest with
  | nil =>
    intro p k a m hd hk h0 h1
    obtain ⟨k, rfl⟩ : ∃ m, k = m + 1 := ⟨k - 1, by simp at hk; omega⟩
    have := of_drop_nil hd
    simp only [impl_LinesFor.l0, linesFrom]
    rw [if_neg (by omega)]
    simp
  | cons x rest ih =>
    intro p k a m hd hk h0 h1
    simp only [List.length_cons] at hk
    obtain ⟨k, rfl⟩ : ∃ m, k = m + 1 := ⟨k - 1, by omega⟩
    obtain ⟨hp, hd', hx⟩ := of_drop hd
    simp only [impl_LinesFor.l0, rd_T26, hx, linesFrom, mx_if]
    rw [if_pos (by omega), if_pos (by omega), if_pos (by omega), w64_id (a := a + 2) (by omega), step64 hp (by omega), w64_id (a := a + 2 + 2) (by omega)]
    by_cases hi : (p : Int) > 0
    · rw [if_pos hi]
      by_cases hm : x.f1 > m
      · rw [if_pos hm, if_pos hm, if_pos ⟨by omega, hm⟩, ih (p + 1) k _ _ hd' (by omega) (by omega) (by omega)]
        simp only [Option.some.injEq, Prod.mk.injEq, and_true]; omega
      · rw [if_neg hm, if_neg hm, if_neg (by omega), ih (p + 1) k _ _ hd' (by omega) (by omega) (by omega)]
        simp only [Option.some.injEq, Prod.mk.injEq, and_true]; omega
    · rw [if_neg hi]
      by_cases hm : x.f1 > m
      · rw [if_pos hm, if_neg (by omega), ih (p + 1) k _ _ hd' (by omega) (by omega) (by omega)]
        simp only [Option.some.injEq, Prod.mk.injEq, and_true]; omega
      · rw [if_neg hm, if_neg (by omega), ih (p + 1) k _ _ hd' (by omega) (by omega) (by omega)]
        simp only [Option.some.injEq, Prod.mk.injEq, and_true]; omega

def linesR (l : List S26) : Int × Int := if codeH l = 0 then (if wrongH l ≥ 0 then (0, 4) else (linesFrom 0 0 l, 0)) else (0, codeH l)

theorem specLines_is (l : List S26) (hl : l.length ≤ 93824992236885) (h8 : ∀ x ∈ l, In8 x) (k : Nat) (hk : 2 * l.length + 2 < k) : spec_LinesFor.f k l = some (linesR l) := by
  obtain ⟨k, rfl⟩ : ∃ m, k = m + 2 := ⟨k - 2, by omega⟩
  unfold spec_LinesFor.f linesR
  rw [l04Asked_is l (by omega) h8 _ (by omega)]
  simp only [Option.bind_some]
  split
  · rename_i hc
    rw [l04Wrong_is l (by omega) h8 _ (by omega)]
    simp only [Option.bind_some, spec_LinesFor.j0, spec_LinesFor.j1]
    by_cases hw : wrongH l ≥ 0
    · rw [if_pos (by simpa using hw), if_neg (by decide), if_pos hw]
    · rw [if_neg (by simpa using hw), if_pos hc, if_neg hw]
      have := specLines_l0 l hl l 0 k 0 0 rfl (by omega) (by omega) (by omega)
      simpa using this
  · rename_i hc
    simp only [spec_LinesFor.j0, spec_LinesFor.j1, Bool.false_eq_true, if_false]
    rw [if_neg hc]

theorem implLines_is (l : List S26) (hl : l.length ≤ 93824992236885) (k : Nat) (hk : l.length < k) : impl_LinesFor.f k l = some (linesR l) := by
  unfold impl_LinesFor.f linesR
  rw [hullsCode_is l (by omega) k hk]
  simp only [Option.bind_some]
  split
  · rename_i hc
    rw [wrong_is l (by omega) (codeH_ok hc).2 k hk]
    simp only [Option.bind_some]
    split
    · rfl
    · have := implLines_l0 l hl l 0 k 0 0 rfl (by omega) (by omega) (by omega)
      simpa using this
  · rfl

theorem FnExactLinesFor : FnExactLinesFor.Said := by
  intro l hm hy hok
  have hl := wf_in hy
  have h8 := cvH_in hok
  have hlm : (l.map cvH).length = l.length := List.length_map ..
  refine ⟨2 * l.length + 4, ?_⟩
  unfold laws_FnExactLinesFor.f
  rw [szHullS_is l _ hl (by omega) (by omega)]
  simp only [Option.bind_some]
  by_cases big : (1048576 : Int) < l.length
  · rw [if_pos big]; rfl
  · rw [if_neg big, if_neg (by omega), toHullS_is l hl _ (by omega)]
    simp only [Option.bind_some]
    rw [specLines_is _ (by omega) h8 _ (by omega), implLines_is _ (by omega) _ (by omega)]
    simp only [Option.bind_some, if_true, bne_self_eq_false, laws_FnExactLinesFor.j0, Bool.false_eq_true, if_false]
    rw [toHullS_is l hl _ (by omega)]
    simp only [Option.bind_some]
    rw [eqHullS_is _ (by omega) _ (by omega)]
    rfl

end Go.Proofs.Ythpfafngjlnoaaa.Pure
