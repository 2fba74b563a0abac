/- The program's FirstTrips returns what the reference's FirstTrips returns, for all seats and every list of crews (of at most 2^20; longer ones the law lets by). -/
import Derived.Test.YtpimdgkofgendaaPFnExactFirstTripsx5
namespace Go.Proofs.Ytpimdgkofgendaa.Pure
open Go.RowKit Go.Proofs.Ytpimdgkofgendaa.PFnExactFirstTrips Go.Proofs.YtpimdgkofgendaaW.PrintWords Go.Proofs.YtpimdgkofgendaaW.PrintLast Go.Proofs.YtpimdgkofgendaaW.PrintMore
set_option linter.unusedVariables false
set_option linter.unusedSimpArgs false

theorem of_drop {α : Type} {xs : List α} {p : Nat} {x : α} {rest : List α} (h : xs.drop p = x :: rest) : p < xs.length ∧ xs.drop (p + 1) = rest ∧ ∀ d, xs.getD ((p : Int)).toNat d = x := by
  have hp : p < xs.length := by
    rcases Nat.lt_or_ge p xs.length with h1 | h1
    · exact h1
    · rw [List.drop_eq_nil_of_le h1] at h; cases h
  rw [List.drop_eq_getElem_cons hp] at h
  injection h with h1 h2
  refine ⟨hp, h2, fun d => ?_⟩
  rw [Int.toNat_natCast, List.getD_eq_getElem?_getD, List.getElem?_eq_getElem hp]
  exact h1

theorem of_drop_nil {α : Type} {xs : List α} {p : Nat} (h : xs.drop p = []) : xs.length ≤ p := List.drop_eq_nil_iff.1 h

theorem step64 {p n : Nat} (h : p < n) (hn : n ≤ 1152921504606846976) : wrap64 ((p : Int) + 1) = ((p + 1 : Nat) : Int) := by
  unfold wrap64
  omega

theorem take_set_at {α : Type} (ys : List α) (p : Nat) (v : α) (h : p < ys.length) : (ys.set p v).take (p + 1) = ys.take p ++ [v] := by
  rw [List.take_succ_eq_append_getElem (by simpa using h), List.take_set_of_le (Nat.le_refl _)]
  simp

theorem i8_in {a : Int} (h : (Lit.int .i8 a).wf = true) : -128 ≤ a ∧ a ≤ 127 := by
  simp [Lit.wf, IntKind.min, IntKind.max, IntKind.signed, IntKind.bits] at h
  omega

theorem i64_in {a : Int} (h : (Lit.int .i64 a).wf = true) : -9223372036854775808 ≤ a ∧ a ≤ 9223372036854775807 := by
  simp [Lit.wf, IntKind.min, IntKind.max, IntKind.signed, IntKind.bits] at h
  omega

theorem w64_id {a : Int} (h : -9223372036854775808 ≤ a ∧ a ≤ 9223372036854775807) : wrap64 a = a := by
  unfold wrap64
  omega

theorem w8_cases (a : Int) : IntKind.i8.wrap a = if a % 256 ≥ 128 then a % 256 - 256 else a % 256 := by
  simp [IntKind.wrap, IntKind.signed, IntKind.bits]

theorem some_dec {p q : Prop} [Decidable p] [Decidable q] (h : p ↔ q) : some (decide p) = some (decide q) := by rw [decide_eq_decide.2 h]
theorem some_decF {q : Prop} [Decidable q] (h : ¬ q) : some false = some (decide q) := by rw [decide_eq_false h]
theorem some_decT {q : Prop} [Decidable q] (h : q) : some true = some (decide q) := by rw [decide_eq_true h]

def cvC (x : S94) : S90 := ⟨⟨x.f0.f0, x.f0.f1⟩, x.f1⟩
def In8C (x : S90) : Prop := (-128 ≤ x.f0.f0 ∧ x.f0.f0 ≤ 127) ∧ (-128 ≤ x.f0.f1 ∧ x.f0.f1 ≤ 127) ∧ (-128 ≤ x.f1 ∧ x.f1 ≤ 127)

theorem toCrewS_l0 (l : List S94) (hl : l.length ≤ 1152921504606846976) : ∀ (rest : List S94) (p k : Nat) (ys : List S90), l.drop p = rest → ys.length = l.length → rest.length < k →
    laws_toCrewS.l0 k l ys (p : Int) = some (ys.take p ++ rest.map cvC) := by
  intro rest
  induction rest with
  | nil =>
    intro p k ys hd hy hk
    obtain ⟨k, rfl⟩ : ∃ m, k = m + 1 := ⟨k - 1, by simp at hk; omega⟩
    have := of_drop_nil hd
    simp only [laws_toCrewS.l0]
    rw [if_neg (by omega), List.take_of_length_le (by omega)]
    simp
  | cons x rest ih =>
    intro p k ys hd hy hk
    simp only [List.length_cons] at hk
    obtain ⟨k, rfl⟩ : ∃ m, k = m + 1 := ⟨k - 1, by omega⟩
    obtain ⟨hp, hd', hx⟩ := of_drop hd
    simp only [laws_toCrewS.l0, laws_toCrew.f, laws_toPlace.f, rd_T94, hx, Option.bind_some]
    rw [if_pos (by omega), if_pos (by omega), if_pos (by omega), step64 hp hl, ih (p + 1) k _ hd' (by simpa using hy) (by omega), Int.toNat_natCast, take_set_at _ _ _ (by omega)]
    simp [cvC]

theorem toCrewS_is (l : List S94) (hl : l.length ≤ 93824992236885) (k : Nat) (hk : l.length < k) : laws_toCrewS.f k l = some (l.map cvC) := by
  unfold laws_toCrewS.f
  rw [if_pos (by omega), if_pos (by omega)]
  have := toCrewS_l0 l (by omega) l 0 k (List.replicate (l.length : Int).toNat z90) rfl (by simp) hk
  simpa using this

theorem cvC_in {l : List S94} (h : ∀ x ∈ l, (Lit.int .i8 x.f0.f0).wf = true ∧ (Lit.int .i8 x.f0.f1).wf = true ∧ (Lit.int .i8 x.f1).wf = true) : ∀ x ∈ l.map cvC, In8C x := by
  intro x hx
  obtain ⟨y, hy, rfl⟩ := List.mem_map.1 hx
  exact ⟨i8_in (h y hy).1, i8_in (h y hy).2.1, i8_in (h y hy).2.2⟩

theorem eqCrewS_l0 (l : List S90) (hl : l.length ≤ 1152921504606846976) : ∀ (rest : List S90) (p k : Nat), l.drop p = rest → rest.length < k → laws_eqCrewS.l0 k l l (p : Int) = some true := by
  intro rest
  induction rest with
  | nil =>
    intro p k hd hk
    obtain ⟨k, rfl⟩ : ∃ m, k = m + 1 := ⟨k - 1, by simp at hk; omega⟩
    have := of_drop_nil hd
    simp only [laws_eqCrewS.l0]
    rw [if_neg (by omega)]
  | cons x rest ih =>
    intro p k hd hk
    simp only [List.length_cons] at hk
    obtain ⟨k, rfl⟩ : ∃ m, k = m + 1 := ⟨k - 1, by omega⟩
    obtain ⟨hp, hd', hx⟩ := of_drop hd
    simp only [laws_eqCrewS.l0, laws_eqCrew.f, laws_eqPlace.f, if_true, Option.bind_some]
    rw [if_pos (by omega), if_pos (by omega), if_pos (by omega), step64 hp hl]
    exact ih (p + 1) k hd' (by omega)

theorem eqCrewS_is (l : List S90) (hl : l.length ≤ 1152921504606846976) (k : Nat) (hk : l.length < k) : laws_eqCrewS.f k l l = some true := by
  unfold laws_eqCrewS.f
  rw [if_pos rfl]
  exact eqCrewS_l0 l hl l 0 k rfl hk

theorem szCrewS_is (l : List S94) (a : Int) (hl : l.length ≤ 93824992236885) (h0 : 0 ≤ a) (h1 : a ≤ 1048576) : laws_szCrewS.f l a = some (if a < l.length then -1 else a - l.length) := by
  unfold laws_szCrewS.f
  rw [w64_id (by omega)]
  by_cases h : a < l.length
  · rw [if_pos (by omega), if_pos h]
  · rw [if_neg (by omega), if_neg h]

def cnt (x : S90) : Bool := decide (1 ≤ x.f1 ∧ x.f1 ≤ 12)
theorem implCount_is (a b c : Int) : impl_isCount.f a b c = some (cnt ⟨⟨a, b⟩, c⟩) := by
  unfold impl_isCount.f
  show _ = some (decide (1 ≤ c ∧ c ≤ 12))
  repeat' split
  all_goals first | exact some_dec (by omega) | exact some_decF (by omega)
theorem l00In_is (a lo hi : Int) : spec_l00In.f a lo hi = some (decide (lo ≤ a ∧ a ≤ hi)) := by
  unfold spec_l00In.f
  repeat' split
  all_goals first | exact some_dec (by omega) | exact some_decF (by omega)
theorem specCount_is (a b c : Int) (h : In8C ⟨⟨a, b⟩, c⟩) : spec_l05Count.f a b c = some (cnt ⟨⟨a, b⟩, c⟩) := by
  unfold spec_l05Count.f
  have := h.2.2
  simp only at this
  rw [w64_id (by omega), l00In_is]
  rfl

def codeC (seats : Int) (l : List S90) : Int := if l.all cnt then (if 1 ≤ seats ∧ seats ≤ 12 then (if l.length > 6 then 3 else 0) else 2) else 1

theorem seatsCode_l0 (s : Int) (l : List S90) (hl : l.length ≤ 1152921504606846976) : ∀ (rest : List S90) (p k : Nat), l.drop p = rest → rest.length + 1 < k →
    impl_seatsCode.l0 k s l l (l.length : Int) (p : Int) = some (if rest.all cnt then (if 1 ≤ s ∧ s ≤ 12 then (if l.length > 6 then 3 else 0) else 2) else 1) := by
  intro rest
  induction rest with
  | nil =>
    intro p k hd hk
    obtain ⟨k, rfl⟩ : ∃ m, k = m + 2 := ⟨k - 2, by simp at hk; omega⟩
    have := of_drop_nil hd
    simp only [impl_seatsCode.l0, impl_seatsCode.j1]
    rw [if_neg (by omega), if_pos (show ([] : List S90).all cnt = true from rfl)]
    by_cases h1 : s < 1
    · simp only [if_pos h1, if_true]
      rw [if_neg (by omega)]
    · simp only [if_neg h1]
      by_cases h2 : s > 12
      · rw [if_pos (by simpa using h2), if_neg (by omega)]
      · rw [if_neg (by simpa using h2), if_pos (show 1 ≤ s ∧ s ≤ 12 by omega)]
        by_cases h : l.length > 6
        · rw [if_pos (show (l.length : Int) > 6 by omega), if_pos h]
        · rw [if_neg (show ¬ (l.length : Int) > 6 by omega), if_neg h]
  | cons x rest ih =>
    intro p k hd hk
    simp only [List.length_cons] at hk
    obtain ⟨k, rfl⟩ : ∃ m, k = m + 1 := ⟨k - 1, by omega⟩
    obtain ⟨hp, hd', hx⟩ := of_drop hd
    simp only [impl_seatsCode.l0, rd_T90, hx, implCount_is, Option.bind_some]
    rw [if_pos (by omega), if_pos (by omega), if_pos (by omega), step64 hp hl, ih (p + 1) k hd' (by omega)]
    cases hv : cnt x <;> simp [hv]

theorem seatsCode_is (s : Int) (l : List S90) (hl : l.length ≤ 1152921504606846976) (k : Nat) (hk : l.length + 1 < k) : impl_seatsCode.f k s l = some (codeC s l) := by
  unfold impl_seatsCode.f codeC
  exact seatsCode_l0 s l hl l 0 k rfl hk

theorem l05Seated_l0 (s : Int) (l : List S90) (hl : l.length ≤ 1152921504606846976) (h8 : ∀ x ∈ l, In8C x) : ∀ (rest : List S90) (p k : Nat), l.drop p = rest → rest.length < k →
    spec_l05Seated.l0 k s l (p : Int) = some (if rest.all cnt then (if 1 ≤ s ∧ s ≤ 12 then (if l.length > 6 then 3 else 0) else 2) else 1) := by
  intro rest
  induction rest with
  | nil =>
    intro p k hd hk
    obtain ⟨k, rfl⟩ : ∃ m, k = m + 1 := ⟨k - 1, by simp at hk; omega⟩
    have := of_drop_nil hd
    simp only [spec_l05Seated.l0, l00In_is, Option.bind_some]
    rw [if_neg (by omega), if_pos (show ([] : List S90).all cnt = true from rfl)]
    by_cases h1 : 1 ≤ s ∧ s ≤ 12
    · rw [if_pos (by simpa using h1), if_pos h1]
      by_cases h : l.length > 6
      · rw [if_pos (by omega), if_pos h]
      · rw [if_neg (by omega), if_neg h]
    · rw [if_neg (by simpa using h1), if_neg h1]
  | cons x rest ih =>
    intro p k hd hk
    simp only [List.length_cons] at hk
    obtain ⟨k, rfl⟩ : ∃ m, k = m + 1 := ⟨k - 1, by omega⟩
    obtain ⟨hp, hd', hx⟩ := of_drop hd
    have hx8 : In8C x := h8 x (List.mem_of_mem_drop (by rw [hd]; exact List.mem_cons_self))
    simp only [spec_l05Seated.l0, rd_T90, hx, specCount_is _ _ _ hx8, Option.bind_some]
    rw [if_pos (by omega), if_pos (by omega), step64 hp hl, ih (p + 1) k hd' (by omega)]
    cases hv : cnt x <;> simp [hv]

theorem l05Seated_is (s : Int) (l : List S90) (hl : l.length ≤ 1152921504606846976) (h8 : ∀ x ∈ l, In8C x) (k : Nat) (hk : l.length < k) : spec_l05Seated.f k s l = some (codeC s l) := by
  unfold spec_l05Seated.f codeC
  exact l05Seated_l0 s l hl h8 l 0 k rfl hk

theorem codeC_ok {s : Int} {l : List S90} (h : codeC s l = 0) : l.length ≤ 6 ∧ (1 ≤ s ∧ s ≤ 12) ∧ ∀ x ∈ l, cnt x = true := by
  unfold codeC at h
  split at h
  · rename_i ha
    split at h
    · rename_i hs
      split at h
      · cases h
      · exact ⟨by omega, hs, by simpa using ha⟩
    · cases h
  · cases h

def fitAll (s : Int) (l : List S90) : Bool := l.all fun x => decide (wrap64 x.f1 ≤ s)
theorem fitCrews_l0 (s : Int) (l : List S90) (hl : l.length ≤ 1152921504606846976) : ∀ (rest : List S90) (p k : Nat), l.drop p = rest → rest.length < k →
    impl_fitCrews.l0 k s l (l.length : Int) (p : Int) = some (fitAll s rest) := by
  intro rest
  induction rest with
  | nil =>
    intro p k hd hk
    obtain ⟨k, rfl⟩ : ∃ m, k = m + 1 := ⟨k - 1, by simp at hk; omega⟩
    have := of_drop_nil hd
    simp only [impl_fitCrews.l0]
    rw [if_neg (by omega)]
    rfl
  | cons x rest ih =>
    intro p k hd hk
    simp only [List.length_cons] at hk
    obtain ⟨k, rfl⟩ : ∃ m, k = m + 1 := ⟨k - 1, by omega⟩
    obtain ⟨hp, hd', hx⟩ := of_drop hd
    simp only [impl_fitCrews.l0, rd_T90, hx, fitAll, List.all_cons]
    rw [if_pos (by omega), if_pos (by omega), if_pos (by omega)]
    by_cases h : wrap64 x.f1 > s
    · rw [if_pos h, decide_eq_false (by omega)]; rfl
    · rw [if_neg h, decide_eq_true (by omega), step64 hp hl, ih (p + 1) k hd' (by omega), Bool.true_and]; rfl
theorem fitCrews_is (s : Int) (l : List S90) (hl : l.length ≤ 1152921504606846976) (k : Nat) (hk : l.length < k) : impl_fitCrews.f k s l = some (fitAll s l) := by
  unfold impl_fitCrews.f
  exact fitCrews_l0 s l hl l 0 k rfl hk
theorem most_l0 (s : Int) (l : List S90) (hl : l.length ≤ 1152921504606846976) : ∀ (rest : List S90) (p k : Nat), l.drop p = rest → rest.length < k →
    spec_l05Most.l0 k s l (p : Int) = some (fitAll s rest) := by
  intro rest
  induction rest with
  | nil =>
    intro p k hd hk
    obtain ⟨k, rfl⟩ : ∃ m, k = m + 1 := ⟨k - 1, by simp at hk; omega⟩
    have := of_drop_nil hd
    simp only [spec_l05Most.l0]
    rw [if_neg (by omega)]
    rfl
  | cons x rest ih =>
    intro p k hd hk
    simp only [List.length_cons] at hk
    obtain ⟨k, rfl⟩ : ∃ m, k = m + 1 := ⟨k - 1, by omega⟩
    obtain ⟨hp, hd', hx⟩ := of_drop hd
    simp only [spec_l05Most.l0, rd_T90, hx, fitAll, List.all_cons]
    rw [if_pos (by omega), if_pos (by omega)]
    by_cases h : wrap64 x.f1 > s
    · rw [if_pos h, decide_eq_false (by omega)]; rfl
    · rw [if_neg h, decide_eq_true (by omega), step64 hp hl, ih (p + 1) k hd' (by omega), Bool.true_and]; rfl
theorem most_is (s : Int) (l : List S90) (hl : l.length ≤ 1152921504606846976) (k : Nat) (hk : l.length < k) : spec_l05Most.f k s l = some (fitAll s l) := by
  unfold spec_l05Most.f
  exact most_l0 s l hl l 0 k rfl hk

theorem markCrewS_l0 : ∀ (n p k : Nat) (l : List S90) (a : Int), l.length ≤ 93824992236885 → l.length = p + n → n < k → 1 ≤ a → a ≤ 1 + 3 * p →
    ∃ ys : List S90, laws_markCrewS.l0 k l a (p : Int) = some (a + 3 * n, ys)
  | 0, p, k, l, a, hl, hn, hk, h0, h1 => by
    obtain ⟨k, rfl⟩ : ∃ m, k = m + 1 := ⟨k - 1, by omega⟩
    refine ⟨l, ?_⟩
    simp only [laws_markCrewS.l0]
    rw [if_neg (by omega)]
    simp
  | n + 1, p, k, l, a, hl, hn, hk, h0, h1 => by
    obtain ⟨k, rfl⟩ : ∃ m, k = m + 1 := ⟨k - 1, by omega⟩
    simp only [laws_markCrewS.l0]
    rw [if_pos (by omega), if_pos (by omega)]
    rw [w64_id (a := a + 1) (by omega), w64_id (a := a + 1 + 1) (by omega), w64_id (a := a + 1 + 1 + 1) (by omega), step64 (show p < l.length by omega) (by omega)]
    have key : ∀ Y : List S90, Y.length = l.length → ∃ ys, laws_markCrewS.l0 k Y (a + 1 + 1 + 1) ((p + 1 : Nat) : Int) = some (a + 3 * ((n + 1 : Nat) : Int), ys) := by
      intro Y hY
      obtain ⟨ys, e⟩ := markCrewS_l0 n (p + 1) k Y (a + 1 + 1 + 1) (by omega) (by omega) (by omega) (by omega) (by omega)
      refine ⟨ys, ?_⟩
      rw [e]
      simp only [Option.some.injEq, Prod.mk.injEq, and_true]
      omega
    exact key _ (by simp)

theorem markCrewS_is (l : List S90) (hl : l.length ≤ 93824992236885) (k : Nat) (hk : l.length < k) : ∃ ys, laws_markCrewS.f k l 1 = some (1 + 3 * (l.length : Int), ys) := by
  unfold laws_markCrewS.f
  exact markCrewS_l0 l.length 0 k l 1 hl (by simp) hk (by omega) (by omega)

/-! The law's harness over a result that is a list of whole numbers. -/
theorem eqInt64S_l0 (l : List Int) (hl : l.length ≤ 1152921504606846976) : ∀ (rest : List Int) (p k : Nat), l.drop p = rest → rest.length < k → laws_eqInt64S.l0 k l l (p : Int) = some true := by
  intro rest
  induction rest with
  | nil =>
    intro p k hd hk
    obtain ⟨k, rfl⟩ : ∃ m, k = m + 1 := ⟨k - 1, by simp at hk; omega⟩
    have := of_drop_nil hd
    simp only [laws_eqInt64S.l0]
    rw [if_neg (by omega)]
  | cons x rest ih =>
    intro p k hd hk
    simp only [List.length_cons] at hk
    obtain ⟨k, rfl⟩ : ∃ m, k = m + 1 := ⟨k - 1, by omega⟩
    obtain ⟨hp, hd', hx⟩ := of_drop hd
    simp only [laws_eqInt64S.l0, if_true]
    rw [if_pos (by omega), if_pos (by omega), if_pos (by omega), step64 hp hl]
    exact ih (p + 1) k hd' (by omega)

theorem eqInt64S_is (l : List Int) (hl : l.length ≤ 1152921504606846976) (k : Nat) (hk : l.length < k) : laws_eqInt64S.f k l l = some true := by
  unfold laws_eqInt64S.f
  rw [if_pos rfl]
  exact eqInt64S_l0 l hl l 0 k rfl hk

/-- 1, 2, 3, .. in place of every number. -/
def marks : Int → Nat → List Int
  | _, 0 => []
  | a, n + 1 => a :: marks (a + 1) n

theorem marks_length : ∀ (n : Nat) (a : Int), (marks a n).length = n
  | 0, _ => rfl
  | n + 1, a => by simp [marks, marks_length n]

theorem markInt64S_l0 : ∀ (n p k : Nat) (l : List Int) (a : Int), l.length ≤ 1152921504606846976 → l.length = p + n → n < k → 0 ≤ a → a ≤ 2305843009213693952 + p →
    laws_markInt64S.l0 k l a (p : Int) = some (a + n, l.take p ++ marks a n)
  | 0, p, k, l, a, hl, hn, hk, h0, h1 => by
    obtain ⟨k, rfl⟩ : ∃ m, k = m + 1 := ⟨k - 1, by omega⟩
    simp only [laws_markInt64S.l0, marks]
    rw [if_neg (by omega), List.take_of_length_le (by omega)]
    simp
  | n + 1, p, k, l, a, hl, hn, hk, h0, h1 => by
    obtain ⟨k, rfl⟩ : ∃ m, k = m + 1 := ⟨k - 1, by omega⟩
    simp only [laws_markInt64S.l0]
    rw [if_pos (by omega), if_pos (by omega), w64_id (by omega), step64 (show p < l.length by omega) hl, Int.toNat_natCast,
      markInt64S_l0 n (p + 1) k (l.set p a) (a + 1) (by simpa using hl) (by simp; omega) (by omega) (by omega) (by omega), take_set_at _ _ _ (by omega)]
    simp only [marks, Option.some.injEq, Prod.mk.injEq, List.append_assoc, List.singleton_append, and_true]
    omega

theorem markInt64S_is (l : List Int) (hl : l.length ≤ 1152921504606846976) (k : Nat) (hk : l.length < k) : laws_markInt64S.f k l 1 = some (1 + (l.length : Int), marks 1 l.length) := by
  unfold laws_markInt64S.f
  exact (markInt64S_l0 l.length 0 k l 1 hl (by simp) hk (by omega) (by omega)).trans (by rw [List.take_zero, List.nil_append])

theorem heldInt64S_l0 (l : List Int) (hl : l.length ≤ 1152921504606846976) : ∀ (n p k : Nat) (a : Int), l.length = p + n → l.drop p = marks a n → n < k → 0 ≤ a → a ≤ 2305843009213693952 + p →
    laws_heldInt64S.l0 k l a (p : Int) = some (a + n)
  | 0, p, k, a, hn, hd, hk, h0, h1 => by
    obtain ⟨k, rfl⟩ : ∃ m, k = m + 1 := ⟨k - 1, by omega⟩
    simp only [laws_heldInt64S.l0]
    rw [if_neg (by omega)]
    simp
  | n + 1, p, k, a, hn, hd, hk, h0, h1 => by
    obtain ⟨k, rfl⟩ : ∃ m, k = m + 1 := ⟨k - 1, by omega⟩
    obtain ⟨hp, hd', hx⟩ := of_drop hd
    simp only [laws_heldInt64S.l0, rd, hx, if_true]
    rw [if_pos (by omega), if_pos (by omega), w64_id (by omega), step64 hp hl, heldInt64S_l0 l hl n (p + 1) k (a + 1) (by omega) hd' (by omega) (by omega) (by omega)]
    simp only [Option.some.injEq]
    omega

theorem heldInt64S_is (n : Nat) (hl : n ≤ 1152921504606846976) (k : Nat) (hk : n < k) : laws_heldInt64S.f k (marks 1 n) 1 = some (1 + (n : Int)) := by
  unfold laws_heldInt64S.f
  exact heldInt64S_l0 (marks 1 n) (by rw [marks_length]; exact hl) n 0 k 1 (by rw [marks_length]; simp) rfl hk (by omega) (by omega)

/-- The law, in plain Lean. -/
def FnExactFirstTrips.Said : Prop := ∀ (a0 : Int) (l1 : List S94), (Lit.int .i64 a0).wf = true → l1.length ≤ maxLen → l1.length * 3 ≤ 140737488351232 → (∀ x ∈ l1, (Lit.int .i8 x.f0.f0).wf = true ∧ (Lit.int .i8 x.f0.f1).wf = true ∧ (Lit.int .i8 x.f1).wf = true) → ∃ k, laws_FnExactFirstTrips.f k a0 l1 = some true

def stepL (s : Int) (x : S90) (L : List Int) : List Int := if fitIx x.f1 L < L.length then L.set (fitIx x.f1 L) (wrap64 (L.getD (fitIx x.f1 L) 0 - wrap64 x.f1)) else (L ++ [s]).set L.length (wrap64 (s - wrap64 x.f1))
theorem fitIx_le (c : Int) (L : List Int) : fitIx c L ≤ L.length := List.findIdx_le_length
theorem firstGo_cons (s : Int) (x : S90) (xs : List S90) (T L : List Int) : firstGo s (x :: xs) T L = firstGo s xs (T ++ [(fitIx x.f1 L : Int)]) (stepL s x L) := by
  have := fitIx_le x.f1 L
  rw [firstGo, stepL]
  by_cases h : fitIx x.f1 L < L.length
  · rw [if_pos h, if_pos h]
  · rw [if_neg h, if_neg h, show fitIx x.f1 L = L.length by omega]
def sumsOf (s : Int) (L : List Int) : List Int := L.map (fun n => s - n)
theorem rd_sums (s : Int) (L : List Int) (a : Nat) (h : a < L.length) : rd (sumsOf s L) (a : Int) = s - L.getD a 0 := by
  rw [rd, sumsOf, Int.toNat_natCast, List.getD_eq_getElem?_getD, List.getD_eq_getElem?_getD, List.getElem?_map, List.getElem?_eq_getElem h]
  rfl
theorem fitIx_drop (c : Int) (L : List Int) (a : Nat) (h : a < L.length) : fitIx c (L.drop a) = if wrap64 c ≤ L.getD a 0 then 0 else fitIx c (L.drop (a + 1)) + 1 := by
  rw [List.drop_eq_getElem_cons h, fitIx_cons, List.getD_eq_getElem?_getD, List.getElem?_eq_getElem h]
  rfl
/-- What is left of each trip lies between 0 and the seats. -/
def Le12 (L : List Int) : Prop := ∀ n ∈ L, 0 ≤ n ∧ n ≤ 12
theorem Le12.at {L : List Int} (h : Le12 L) {a : Nat} (ha : a < L.length) : 0 ≤ L.getD a 0 ∧ L.getD a 0 ≤ 12 := by
  rw [List.getD_eq_getElem?_getD, List.getElem?_eq_getElem ha]
  exact h _ (List.getElem_mem ha)
theorem stepL_in {s : Int} {x : S90} {L : List Int} (h : Le12 L) (hs : 1 ≤ s ∧ s ≤ 12) (hx : 1 ≤ x.f1 ∧ x.f1 ≤ s) : Le12 (stepL s x L) ∧ (stepL s x L).length ≤ L.length + 1 := by
  have hw : wrap64 x.f1 = x.f1 := w64_id (by omega)
  unfold stepL
  by_cases hf : fitIx x.f1 L < L.length
  · rw [if_pos hf]
    have hp : wrap64 x.f1 ≤ L[fitIx x.f1 L] := by
      have := List.findIdx_getElem (p := fun n => decide (wrap64 x.f1 ≤ n)) (xs := L) (w := hf)
      exact of_decide_eq_true this
    have hg : L.getD (fitIx x.f1 L) 0 = L[fitIx x.f1 L] := by rw [List.getD_eq_getElem?_getD, List.getElem?_eq_getElem hf]; rfl
    have hb := h _ (List.getElem_mem hf)
    refine ⟨fun n hn => ?_, by simp⟩
    rcases List.mem_or_eq_of_mem_set hn with hm | rfl
    · exact h n hm
    · rw [hg, hw, w64_id (by omega)]
      omega
  · rw [if_neg hf]
    refine ⟨fun n hn => ?_, by simp⟩
    rcases List.mem_or_eq_of_mem_set hn with hm | rfl
    · rcases List.mem_append.1 hm with hm | hm
      · exact h n hm
      · rw [List.mem_singleton.1 hm]; omega
    · rw [hw, w64_id (by omega)]
      omega

theorem first_l1 (s : Int) (hs : 1 ≤ s ∧ s ≤ 12) (l : List S90) (p : Nat) (x : S90) (hp : p < l.length) (hl : l.length ≤ 6) (hx : rd_T90 l (p : Int) = x) (hc : 1 ≤ x.f1 ∧ x.f1 ≤ s) (T L : List Int) (hT : T.length ≤ 6) (hL : Le12 L) (hLl : L.length ≤ 6) (K : Nat) (R : List Int × Int × Int)
    (hcont : ∀ k, K ≤ k → spec_FirstTrips.l0 k s l (T ++ [(fitIx x.f1 L : Int)]) (sumsOf s (stepL s x L)) ((p + 1 : Nat) : Int) = some R) :
    ∀ (n a k : Nat), L.length = a + n → fitIx x.f1 L = a + fitIx x.f1 (L.drop a) → K + n + 1 ≤ k → spec_FirstTrips.l1 k s l T (sumsOf s L) (p : Int) (a : Int) = some R := by
  have hw : wrap64 x.f1 = x.f1 := w64_id (by omega)
  have hsl : (sumsOf s L).length = L.length := List.length_map ..
  intro n
  induction n with
  | zero =>
    intro a k hn hf hk
    obtain ⟨k, rfl⟩ : ∃ m, k = m + 1 := ⟨k - 1, by omega⟩
    have ha : fitIx x.f1 L = a := by rw [hf, List.drop_eq_nil_of_le (by omega)]; rfl
    have hy : (sumsOf s L ++ [0]).length = L.length + 1 := by simp [hsl]
    have hr : rd (sumsOf s L ++ [0]) (a : Int) = 0 := by
      rw [rd, Int.toNat_natCast, List.getD_eq_getElem?_getD, List.getElem?_append_right (by omega), hsl, hn]
      simp
    have hst : (sumsOf s L ++ [0]).set a (wrap64 (0 + wrap64 x.f1)) = sumsOf s (stepL s x L) := by
      rw [stepL, ha, if_neg (by omega), hw, w64_id (by omega), w64_id (by omega), show L.length = a by omega]
      rw [List.set_append_right _ _ (by omega), List.set_append_right _ _ (by omega), hsl, show a - L.length = 0 by omega]
      simp only [List.set_cons_zero, sumsOf, List.map_append, List.map_cons, List.map_nil]
      congr 2
      omega
    simp only [spec_FirstTrips.l1, Option.bind_some, hx, hr]
    rw [if_neg (by omega), if_pos (by omega), if_pos (by omega), if_pos (by omega), if_pos (by omega), if_pos (by omega), if_pos (by omega), if_pos (by omega), Int.toNat_natCast, hst, step64 hp (by omega), ← ha]
    exact hcont k (by omega)
  | succ n ih =>
    intro a k hn hf hk
    obtain ⟨k, rfl⟩ : ∃ m, k = m + 1 := ⟨k - 1, by omega⟩
    have haL : a < L.length := by omega
    have hb := hL.at haL
    simp only [spec_FirstTrips.l1, Option.bind_some, hx, rd_sums s L a haL]
    rw [if_pos (by omega), if_pos (by omega), if_pos (by omega), if_pos (by omega), hw, w64_id (by omega)]
    have hd := fitIx_drop x.f1 L a haL
    by_cases h : x.f1 ≤ L.getD a 0
    · rw [hw, if_pos h] at hd
      have ha : fitIx x.f1 L = a := by omega
      have hst : (sumsOf s L).set a (s - L.getD a 0 + x.f1) = sumsOf s (stepL s x L) := by
        rw [stepL, ha, if_pos haL, hw, w64_id (by omega), sumsOf, sumsOf, List.map_set]
        congr 1
        omega
      rw [if_neg (by omega), if_neg (by omega), if_pos (by omega), Int.toNat_natCast, hst, step64 hp (by omega), ← ha]
      exact hcont k (by omega)
    · rw [hw, if_neg h] at hd
      rw [if_pos (by omega), w64_id (by omega)]
      exact ih (a + 1) k (by omega) (by omega) (by omega)

theorem first_l0 (s : Int) (hs : 1 ≤ s ∧ s ≤ 12) (l : List S90) (hl : l.length ≤ 6) (hc : ∀ x ∈ l, 1 ≤ x.f1 ∧ x.f1 ≤ s) : ∀ (rest : List S90) (p k : Nat) (T L : List Int), l.drop p = rest → T.length = p → L.length ≤ p → Le12 L → 10 * rest.length + 1 ≤ k →
    spec_FirstTrips.l0 k s l T (sumsOf s L) (p : Int) = some ((firstGo s rest T L).1, ((firstGo s rest T L).2.length : Int), 0) := by
  intro rest
  induction rest with
  | nil =>
    intro p k T L hd hT hL hB hk
    obtain ⟨k, rfl⟩ : ∃ m, k = m + 1 := ⟨k - 1, by omega⟩
    have := of_drop_nil hd
    simp only [spec_FirstTrips.l0, firstGo]
    rw [if_neg (by omega), sumsOf, List.length_map]
  | cons x rest ih =>
    intro p k T L hd hT hL hB hk
    simp only [List.length_cons] at hk
    obtain ⟨k, rfl⟩ : ∃ m, k = m + 1 := ⟨k - 1, by omega⟩
    obtain ⟨hp, hd', hx⟩ := of_drop hd
    have hxc := hc x (List.mem_of_mem_drop (by rw [hd]; exact List.mem_cons_self))
    have hst := stepL_in hB hs hxc
    simp only [spec_FirstTrips.l0]
    rw [if_pos (by omega), firstGo_cons]
    refine first_l1 s hs l p x hp hl (by simp only [rd_T90, hx]) hxc T L (by omega) hB (by omega) (10 * rest.length + 1) _ (fun k' hk' => ?_) L.length 0 k (by omega) (by simp) (by omega)
    exact ih (p + 1) k' _ _ hd' (by simp [hT]) (by omega) hst.1 hk'

def firstR (s : Int) (l : List S90) : List Int × Int × Int := if codeC s l = 0 then (if fitAll s l = true then ((firstGo s l [] []).1, ((firstGo s l [] []).2.length : Int), 0) else ([], 0, 6)) else ([], 0, codeC s l)
theorem firstGo_len (s : Int) : ∀ (l : List S90) (T L : List Int), (firstGo s l T L).1.length = T.length + l.length
  | [], T, L => rfl
  | x :: xs, T, L => by rw [firstGo_cons, firstGo_len s xs, List.length_append, List.length_cons, List.length_cons, List.length_nil]; omega
theorem firstR_len (s : Int) (l : List S90) : (firstR s l).1.length ≤ l.length := by
  unfold firstR
  split
  · split
    · rw [firstGo_len]; simp
    · simp
  · simp
theorem implFirstTrips_is (s : Int) (l : List S90) (hl : l.length ≤ 1048576) : impl_FirstTrips.f s l = some (firstR s l) := by
  unfold impl_FirstTrips.f firstR
  rw [if_pos hl, seatsCode_is s l (by omega) _ (by omega)]
  simp only [Option.bind_some]
  by_cases hc : codeC s l = 0
  · rw [if_pos hc, if_pos hc, fitCrews_is s l (by omega) _ (by omega)]
    simp only [Option.bind_some]
    split <;> rfl
  · rw [if_neg hc, if_neg hc]
theorem specFirstTrips_is (s : Int) (l : List S90) (hl : l.length ≤ 1048576) (h8 : ∀ x ∈ l, In8C x) (k : Nat) (hk : l.length + 70 < k) : spec_FirstTrips.f k s l = some (firstR s l) := by
  unfold spec_FirstTrips.f firstR
  rw [l05Seated_is s l (by omega) h8 k (by omega)]
  simp only [Option.bind_some]
  obtain ⟨k, rfl⟩ : ∃ m, k = m + 2 := ⟨k - 2, by omega⟩
  by_cases hc : codeC s l = 0
  · rw [if_pos hc, if_pos hc, most_is s l (by omega) _ (by omega)]
    simp only [Option.bind_some, spec_FirstTrips.j0]
    obtain ⟨h6, hs, hcn⟩ := codeC_ok hc
    cases hf : fitAll s l with
    | true =>
      simp only [Bool.not_true, Bool.false_eq_true, if_false, if_true, spec_FirstTrips.j1]
      rw [if_pos hc]
      refine first_l0 s hs l h6 (fun x hx => ?_) l 0 k [] [] rfl rfl (Nat.le_refl _) (fun n hn => by cases hn) (by omega)
      have h1 : 1 ≤ x.f1 ∧ x.f1 ≤ 12 := by simpa [cnt] using hcn x hx
      have h2 := of_decide_eq_true (List.all_eq_true.1 hf x hx)
      rw [w64_id (by omega)] at h2
      exact ⟨h1.1, h2⟩
    | false =>
      simp only [Bool.not_false, if_true, spec_FirstTrips.j1]
      rw [if_neg (by decide)]
      rfl
  · rw [if_neg hc, if_neg hc]
    simp only [spec_FirstTrips.j0, Bool.false_eq_true, if_false, spec_FirstTrips.j1]
    rw [if_neg hc]

theorem FnExactFirstTrips : FnExactFirstTrips.Said := by
  intro s l hs0 hm hy hok
  have hl : l.length ≤ 93824992236885 := by omega
  have h8 := cvC_in hok
  have hlm : (l.map cvC).length = l.length := List.length_map ..
  obtain ⟨K, hK⟩ : ∃ K, K = l.length + 100 := ⟨_, rfl⟩
  refine ⟨K + 3, ?_⟩
  unfold laws_FnExactFirstTrips.f
  rw [szCrewS_is l _ hl (by omega) (by omega)]
  simp only [Option.bind_some]
  by_cases big : (1048576 : Int) < l.length
  · rw [if_pos big]; rfl
  · rw [if_neg big, if_neg (by omega), toCrewS_is l hl _ (by omega)]
    simp only [Option.bind_some]
    have hr := firstR_len s (l.map cvC)
    generalize hR : firstR s (l.map cvC) = R at hr
    rw [specFirstTrips_is s _ (by omega) h8 _ (by omega), implFirstTrips_is s _ (by omega), hR]
    simp only [Option.bind_some]
    rw [eqInt64S_is _ (by omega) _ (by omega)]
    simp only [Option.bind_some, if_true, bne_self_eq_false, laws_FnExactFirstTrips.j0, Bool.false_eq_true, if_false]
    rw [toCrewS_is l hl _ (by omega)]
    simp only [Option.bind_some]
    rw [eqCrewS_is _ (by omega) _ (by omega)]
    simp only [Option.bind_some, if_true]
    obtain ⟨ys, e⟩ := markCrewS_is (l.map cvC) (by omega) (K + 2) (by omega)
    rw [e]
    simp only [Option.bind_some]
    rw [if_neg (by omega), eqInt64S_is _ (by omega) _ (by omega)]
    simp only [Option.bind_some, if_true, laws_FnExactFirstTrips.j1, Bool.false_eq_true, if_false]
    rw [markInt64S_is _ (by omega) _ (by omega)]
    simp only [Option.bind_some]
    rw [heldInt64S_is _ (by omega) _ (by omega)]
    simp only [Option.bind_some, if_true]
    rw [if_neg (by omega), toCrewS_is l hl _ (by omega)]
    simp only [Option.bind_some]
    rw [implFirstTrips_is s _ (by omega), hR]
    simp only [Option.bind_some]
    rw [eqInt64S_is _ (by omega) _ (by omega)]
    simp only [Option.bind_some, if_true, bne_self_eq_false, laws_FnExactFirstTrips.j2, Bool.false_eq_true, if_false]
    rw [heldInt64S_is _ (by omega) _ (by omega)]
    simp only [Option.bind_some, if_true]
    rw [if_neg (by omega)]

end Go.Proofs.Ytpimdgkofgendaa.Pure
