/- The program's TripsBound returns what the reference's TripsBound returns, for all seats and every list of crews (of at most 2^20; longer ones the law lets by). -/
import Derived.Test.YthpfafngjlnoaaaPFnExactTripsBoundx2
namespace Go.Proofs.Ythpfafngjlnoaaa.Pure
open Go.RowKit Go.Proofs.Ythpfafngjlnoaaa.PFnExactTripsBound Go.Proofs.YthpfafngjlnoaaaW.PrintWords Go.Proofs.YthpfafngjlnoaaaW.PrintLast Go.Proofs.YthpfafngjlnoaaaW.PrintMore
set_option linter.unusedVariables false
set_option linter.unusedSimpArgs false

theorem of_drop {α : Type} {xs : List α} {p : Nat} {x : α} {rest : List α} (h : xs.drop p = x :: rest) : p < xs.length ∧ xs.drop (p + 1) = rest ∧ ∀ d, xs.getD ((p : Int)).toNat d = x := by
  have hp : p < xs.length := by
    rcases Nat.lt_or_ge p xs.length with h1 | h1
    · exact h1
    · rw [List.drop_eq_nil_of_le h1] at h; cases h
  rw [List.drop_eq_getElem_cons hp] at h
  injection h with h1 h2
  refine ⟨hp, h2, fun d => ?_⟩
  rw [Int.toNat_natCast, List.getD_eq_getElem?_getD, List.getElem?_eq_getElem hp]
  exact h1

theorem of_drop_nil {α : Type} {xs : List α} {p : Nat} (h : xs.drop p = []) : xs.length ≤ p := List.drop_eq_nil_iff.1 h

theorem step64 {p n : Nat} (h : p < n) (hn : n ≤ 1152921504606846976) : wrap64 ((p : Int) + 1) = ((p + 1 : Nat) : Int) := by
  unfold wrap64
  omega

theorem take_set_at {α : Type} (ys : List α) (p : Nat) (v : α) (h : p < ys.length) : (ys.set p v).take (p + 1) = ys.take p ++ [v] := by
  rw [List.take_succ_eq_append_getElem (by simpa using h), List.take_set_of_le (Nat.le_refl _)]
  simp

theorem i8_in {a : Int} (h : (Lit.int .i8 a).wf = true) : -128 ≤ a ∧ a ≤ 127 := by
  simp [Lit.wf, IntKind.min, IntKind.max, IntKind.signed, IntKind.bits] at h
  omega

theorem i64_in {a : Int} (h : (Lit.int .i64 a).wf = true) : -9223372036854775808 ≤ a ∧ a ≤ 9223372036854775807 := by
  simp [Lit.wf, IntKind.min, IntKind.max, IntKind.signed, IntKind.bits] at h
  omega

theorem w64_id {a : Int} (h : -9223372036854775808 ≤ a ∧ a ≤ 9223372036854775807) : wrap64 a = a := by
  unfold wrap64
  omega

theorem w8_cases (a : Int) : IntKind.i8.wrap a = if a % 256 ≥ 128 then a % 256 - 256 else a % 256 := by
  simp [IntKind.wrap, IntKind.signed, IntKind.bits]

theorem some_dec {p q : Prop} [Decidable p] [Decidable q] (h : p ↔ q) : some (decide p) = some (decide q) := by rw [decide_eq_decide.2 h]
theorem some_decF {q : Prop} [Decidable q] (h : ¬ q) : some false = some (decide q) := by rw [decide_eq_false h]
theorem some_decT {q : Prop} [Decidable q] (h : q) : some true = some (decide q) := by rw [decide_eq_true h]

def cvC (x : S48) : S54 := ⟨⟨x.f0.f0, x.f0.f1⟩, x.f1⟩
def In8C (x : S54) : Prop := (-128 ≤ x.f0.f0 ∧ x.f0.f0 ≤ 127) ∧ (-128 ≤ x.f0.f1 ∧ x.f0.f1 ≤ 127) ∧ (-128 ≤ x.f1 ∧ x.f1 ≤ 127)

theorem toCrewS_l0 (l : List S48) (hl : l.length ≤ 1152921504606846976) : ∀ (rest : List S48) (p k : Nat) (ys : List S54), l.drop p = rest → ys.length = l.length → rest.length < k →
    laws_toCrewS.l0 k l ys (p : Int) = some (ys.take p ++ rest.map cvC) := by
  intro rest
  induction rest with
  | nil =>
    intro p k ys hd hy hk
    obtain ⟨k, rfl⟩ : ∃ m, k = m + 1 := ⟨k - 1, by simp at hk; omega⟩
    have := of_drop_nil hd
    simp only [laws_toCrewS.l0]
    rw [if_neg (by omega), List.take_of_length_le (by omega)]
    simp
  | cons x rest ih =>
    intro p k ys hd hy hk
    simp only [List.length_cons] at hk
    obtain ⟨k, rfl⟩ : ∃ m, k = m + 1 := ⟨k - 1, by omega⟩
    obtain ⟨hp, hd', hx⟩ := of_drop hd
    simp only [laws_toCrewS.l0, laws_toCrew.f, laws_toPlace.f, rd_T48, hx, Option.bind_some]
    rw [if_pos (by omega), if_pos (by omega), if_pos (by omega), step64 hp hl, ih (p + 1) k _ hd' (by simpa using hy) (by omega), Int.toNat_natCast, take_set_at _ _ _ (by omega)]
    simp [cvC]

theorem toCrewS_is (l : List S48) (hl : l.length ≤ 93824992236885) (k : Nat) (hk : l.length < k) : laws_toCrewS.f k l = some (l.map cvC) := by
  unfold laws_toCrewS.f
  rw [if_pos (by omega), if_pos (by omega)]
  have := toCrewS_l0 l (by omega) l 0 k (List.replicate (l.length : Int).toNat z54) rfl (by simp) hk
  simpa using this

theorem cvC_in {l : List S48} (h : ∀ x ∈ l, (Lit.int .i8 x.f0.f0).wf = true ∧ (Lit.int .i8 x.f0.f1).wf = true ∧ (Lit.int .i8 x.f1).wf = true) : ∀ x ∈ l.map cvC, In8C x := by
  intro x hx
  obtain ⟨y, hy, rfl⟩ := List.mem_map.1 hx
  exact ⟨i8_in (h y hy).1, i8_in (h y hy).2.1, i8_in (h y hy).2.2⟩

theorem eqCrewS_l0 (l : List S54) (hl : l.length ≤ 1152921504606846976) : ∀ (rest : List S54) (p k : Nat), l.drop p = rest → rest.length < k → laws_eqCrewS.l0 k l l (p : Int) = some true := by
  intro rest
  induction rest with
  | nil =>
    intro p k hd hk
    obtain ⟨k, rfl⟩ : ∃ m, k = m + 1 := ⟨k - 1, by simp at hk; omega⟩
    have := of_drop_nil hd
    simp only [laws_eqCrewS.l0]
    rw [if_neg (by omega)]
  | cons x rest ih =>
    intro p k hd hk
    simp only [List.length_cons] at hk
    obtain ⟨k, rfl⟩ : ∃ m, k = m + 1 := ⟨k - 1, by omega⟩
    obtain ⟨hp, hd', hx⟩ := of_drop hd
    simp only [laws_eqCrewS.l0, laws_eqCrew.f, laws_eqPlace.f, if_true, Option.bind_some]
    rw [if_pos (by omega), if_pos (by omega), if_pos (by omega), step64 hp hl]
    exact ih (p + 1) k hd' (by omega)

theorem eqCrewS_is (l : List S54) (hl : l.length ≤ 1152921504606846976) (k : Nat) (hk : l.length < k) : laws_eqCrewS.f k l l = some true := by
  unfold laws_eqCrewS.f
  rw [if_pos rfl]
  exact eqCrewS_l0 l hl l 0 k rfl hk

theorem szCrewS_is (l : List S48) (a : Int) (hl : l.length ≤ 93824992236885) (h0 : 0 ≤ a) (h1 : a ≤ 1048576) : laws_szCrewS.f l a = some (if a < l.length then -1 else a - l.length) := by
  unfold laws_szCrewS.f
  rw [w64_id (by omega)]
  by_cases h : a < l.length
  · rw [if_pos (by omega), if_pos h]
  · rw [if_neg (by omega), if_neg h]

def cnt (x : S54) : Bool := decide (1 ≤ x.f1 ∧ x.f1 ≤ 12)
theorem implCount_is (a b c : Int) : impl_isCount.f a b c = some (cnt ⟨⟨a, b⟩, c⟩) := by
  unfold impl_isCount.f
  show _ = some (decide (1 ≤ c ∧ c ≤ 12))
  repeat' split
  all_goals first | exact some_dec (by omega) | exact some_decF (by omega)
theorem l00In_is (a lo hi : Int) : spec_l00In.f a lo hi = some (decide (lo ≤ a ∧ a ≤ hi)) := by
  unfold spec_l00In.f
  repeat' split
  all_goals first | exact some_dec (by omega) | exact some_decF (by omega)
theorem specCount_is (a b c : Int) (h : In8C ⟨⟨a, b⟩, c⟩) : spec_l05Count.f a b c = some (cnt ⟨⟨a, b⟩, c⟩) := by
  unfold spec_l05Count.f
  have := h.2.2
  simp only at this
  rw [w64_id (by omega), l00In_is]
  rfl

def codeC (seats : Int) (l : List S54) : Int := if l.all cnt then (if 1 ≤ seats ∧ seats ≤ 12 then (if l.length > 6 then 3 else 0) else 2) else 1

theorem seatsCode_l0 (s : Int) (l : List S54) (hl : l.length ≤ 1152921504606846976) : ∀ (rest : List S54) (p k : Nat), l.drop p = rest → rest.length + 1 < k →
    impl_seatsCode.l0 k s l l (l.length : Int) (p : Int) = some (if rest.all cnt then (if 1 ≤ s ∧ s ≤ 12 then (if l.length > 6 then 3 else 0) else 2) else 1) := by
  intro rest
  induction rest with
  | nil =>
    intro p k hd hk
    obtain ⟨k, rfl⟩ : ∃ m, k = m + 2 := ⟨k - 2, by simp at hk; omega⟩
    have := of_drop_nil hd
    simp only [impl_seatsCode.l0, impl_seatsCode.j1]
    rw [if_neg (by omega), if_pos (show ([] : List S54).all cnt = true from rfl)]
    by_cases h1 : s < 1
    · simp only [if_pos h1, if_true]
      rw [if_neg (by omega)]
    · simp only [if_neg h1]
      by_cases h2 : s > 12
      · rw [if_pos (by simpa using h2), if_neg (by omega)]
      · rw [if_neg (by simpa using h2), if_pos (show 1 ≤ s ∧ s ≤ 12 by omega)]
        by_cases h : l.length > 6
        · rw [if_pos (show (l.length : Int) > 6 by omega), if_pos h]
        · rw [if_neg (show ¬ (l.length : Int) > 6 by omega), if_neg h]
  | cons x rest ih =>
    intro p k hd hk
    simp only [List.length_cons] at hk
    obtain ⟨k, rfl⟩ : ∃ m, k = m + 1 := ⟨k - 1, by omega⟩
    obtain ⟨hp, hd', hx⟩ := of_drop hd
    simp only [impl_seatsCode.l0, rd_T54, hx, implCount_is, Option.bind_some]
    rw [if_pos (by omega), if_pos (by omega), if_pos (by omega), step64 hp hl, ih (p + 1) k hd' (by omega)]
    cases hv : cnt x <;> simp [hv]

theorem seatsCode_is (s : Int) (l : List S54) (hl : l.length ≤ 1152921504606846976) (k : Nat) (hk : l.length + 1 < k) : impl_seatsCode.f k s l = some (codeC s l) := by
  unfold impl_seatsCode.f codeC
  exact seatsCode_l0 s l hl l 0 k rfl hk

theorem l05Seated_l0 (s : Int) (l : List S54) (hl : l.length ≤ 1152921504606846976) (h8 : ∀ x ∈ l, In8C x) : ∀ (rest : List S54) (p k : Nat), l.drop p = rest → rest.length < k →
    spec_l05Seated.l0 k s l (p : Int) = some (if rest.all cnt then (if 1 ≤ s ∧ s ≤ 12 then (if l.length > 6 then 3 else 0) else 2) else 1) := by
  intro rest
  induction rest with
  | nil =>
    intro p k hd hk
    obtain ⟨k, rfl⟩ : ∃ m, k = m + 1 := ⟨k - 1, by simp at hk; omega⟩
    have := of_drop_nil hd
    simp only [spec_l05Seated.l0, l00In_is, Option.bind_some]
    rw [if_neg (by omega), if_pos (show ([] : List S54).all cnt = true from rfl)]
    by_cases h1 : 1 ≤ s ∧ s ≤ 12
    · rw [if_pos (by simpa using h1), if_pos h1]
      by_cases h : l.length > 6
      · rw [if_pos (by omega), if_pos h]
      · rw [if_neg (by omega), if_neg h]
    · rw [if_neg (by simpa using h1), if_neg h1]
  | cons x rest ih =>
    intro p k hd hk
    simp only [List.length_cons] at hk
    obtain ⟨k, rfl⟩ : ∃ m, k = m + 1 := ⟨k - 1, by omega⟩
    obtain ⟨hp, hd', hx⟩ := of_drop hd
    have hx8 : In8C x := h8 x (List.mem_of_mem_drop (by rw [hd]; exact List.mem_cons_self))
    simp only [spec_l05Seated.l0, rd_T54, hx, specCount_is _ _ _ hx8, Option.bind_some]
    rw [if_pos (by omega), if_pos (by omega), step64 hp hl, ih (p + 1) k hd' (by omega)]
    cases hv : cnt x <;> simp [hv]

theorem l05Seated_is (s : Int) (l : List S54) (hl : l.length ≤ 1152921504606846976) (h8 : ∀ x ∈ l, In8C x) (k : Nat) (hk : l.length < k) : spec_l05Seated.f k s l = some (codeC s l) := by
  unfold spec_l05Seated.f codeC
  exact l05Seated_l0 s l hl h8 l 0 k rfl hk

theorem codeC_ok {s : Int} {l : List S54} (h : codeC s l = 0) : l.length ≤ 6 ∧ (1 ≤ s ∧ s ≤ 12) ∧ ∀ x ∈ l, cnt x = true := by
  unfold codeC at h
  split at h
  · rename_i ha
    split at h
    · rename_i hs
      split at h
      · cases h
      · exact ⟨by omega, hs, by simpa using ha⟩
    · cases h
  · cases h

/-- The law, in plain Lean. -/
def FnExactTripsBound.Said : Prop := ∀ (a0 : Int) (l1 : List S48), (Lit.int .i64 a0).wf = true → l1.length ≤ maxLen → l1.length * 3 ≤ 140737488351232 → (∀ x ∈ l1, (Lit.int .i8 x.f0.f0).wf = true ∧ (Lit.int .i8 x.f0.f1).wf = true ∧ (Lit.int .i8 x.f1).wf = true) → ∃ k, laws_FnExactTripsBound.f k a0 l1 = some true

def people : List S54 → Int
  | [] => 0
  | x :: r => x.f1 + people r

theorem specPeople_l0 (l : List S54) (hl : l.length ≤ 93824992236885) (h8 : ∀ x ∈ l, In8C x) : ∀ (rest : List S54) (p k : Nat) (a : Int), l.drop p = rest → rest.length < k → -128 * (p : Int) ≤ a → a ≤ 128 * (p : Int) →
    spec_l05People.l0 k l a (p : Int) = some (a + people rest) := by
  intro rest
  induction rest with
  | nil =>
    intro p k a hd hk ha0 ha1
    obtain ⟨k, rfl⟩ : ∃ m, k = m + 1 := ⟨k - 1, by simp at hk; omega⟩
    have := of_drop_nil hd
    simp only [spec_l05People.l0]
    rw [if_neg (by omega)]
    simp [people]
  | cons x rest ih =>
    intro p k a hd hk ha0 ha1
    simp only [List.length_cons] at hk
    obtain ⟨k, rfl⟩ : ∃ m, k = m + 1 := ⟨k - 1, by omega⟩
    obtain ⟨hp, hd', hx⟩ := of_drop hd
    have hx8 : In8C x := h8 x (List.mem_of_mem_drop (by rw [hd]; exact List.mem_cons_self))
    have h0 := hx8.2.2
    simp only [spec_l05People.l0, rd_T54, hx]
    rw [if_pos (by omega), if_pos (by omega), step64 hp (by omega), w64_id (a := x.f1) (by omega), w64_id (by omega), ih (p + 1) k _ hd' (by omega) (by omega) (by omega)]
    simp only [people]
    congr 1
    omega

theorem implTrips_l0 (s : Int) (hs : s ≠ 0) (l : List S54) (hl : l.length ≤ 93824992236885) (h8 : ∀ x ∈ l, In8C x) : ∀ (rest : List S54) (p k : Nat) (a : Int), l.drop p = rest → rest.length < k → -128 * (p : Int) ≤ a → a ≤ 128 * (p : Int) →
    impl_TripsBound.l0 k s a l (l.length : Int) (p : Int) = some (wrap64 (Int.tdiv (wrap64 ((wrap64 ((a + people rest) + s)) - 1)) s), 0) := by
  intro rest
  induction rest with
  | nil =>
    intro p k a hd hk ha0 ha1
    obtain ⟨k, rfl⟩ : ∃ m, k = m + 1 := ⟨k - 1, by simp at hk; omega⟩
    have := of_drop_nil hd
    simp only [impl_TripsBound.l0]
    rw [if_neg (by omega), if_neg hs]
    simp [people]
  | cons x rest ih =>
    intro p k a hd hk ha0 ha1
    simp only [List.length_cons] at hk
    obtain ⟨k, rfl⟩ : ∃ m, k = m + 1 := ⟨k - 1, by omega⟩
    obtain ⟨hp, hd', hx⟩ := of_drop hd
    have hx8 : In8C x := h8 x (List.mem_of_mem_drop (by rw [hd]; exact List.mem_cons_self))
    have h0 := hx8.2.2
    simp only [impl_TripsBound.l0, rd_T54, hx]
    rw [if_pos (by omega), if_pos (by omega), if_pos (by omega), step64 hp (by omega), w64_id (a := x.f1) (by omega), w64_id (by omega), ih (p + 1) k _ hd' (by omega) (by omega) (by omega)]
    simp only [people, Int.add_assoc]

def boundR (s : Int) (l : List S54) : Int × Int := if codeC s l = 0 then (wrap64 (Int.tdiv (wrap64 ((wrap64 (people l + s)) - 1)) s), 0) else (0, codeC s l)

theorem specBound_is (s : Int) (l : List S54) (hl : l.length ≤ 93824992236885) (h8 : ∀ x ∈ l, In8C x) (k : Nat) (hk : l.length < k) : spec_TripsBound.f k s l = some (boundR s l) := by
  unfold spec_TripsBound.f boundR
  rw [l05Seated_is s l (by omega) h8 k hk]
  simp only [Option.bind_some]
  split
  · rename_i hc
    have := (codeC_ok hc).2.1
    unfold spec_l05People.f
    have e := specPeople_l0 l hl h8 l 0 k 0 rfl hk (by omega) (by omega)
    have e' : spec_l05People.l0 k l 0 0 = some (people l) := by simpa using e
    rw [e']
    simp only [Option.bind_some]
    rw [if_neg (by omega)]
  · rfl

theorem implBound_is (s : Int) (l : List S54) (hl : l.length ≤ 93824992236885) (h8 : ∀ x ∈ l, In8C x) (k : Nat) (hk : l.length + 1 < k) : impl_TripsBound.f k s l = some (boundR s l) := by
  unfold impl_TripsBound.f boundR
  rw [seatsCode_is s l (by omega) k hk]
  simp only [Option.bind_some]
  split
  · rename_i hc
    have := (codeC_ok hc).2.1
    have e := implTrips_l0 s (by omega) l hl h8 l 0 k 0 rfl (by omega) (by omega) (by omega)
    simpa using e
  · rfl

theorem FnExactTripsBound : FnExactTripsBound.Said := by
  intro s l hs hm hy hok
  have hl : l.length ≤ 93824992236885 := by omega
  have h8 := cvC_in hok
  have hlm : (l.map cvC).length = l.length := List.length_map ..
  refine ⟨l.length + 3, ?_⟩
  unfold laws_FnExactTripsBound.f
  rw [szCrewS_is l _ hl (by omega) (by omega)]
  simp only [Option.bind_some]
  by_cases big : (1048576 : Int) < l.length
  · rw [if_pos big]; rfl
  · rw [if_neg big, if_neg (by omega), toCrewS_is l hl _ (by omega)]
    simp only [Option.bind_some]
    rw [specBound_is s _ (by omega) h8 _ (by omega), implBound_is s _ (by omega) h8 _ (by omega)]
    simp only [Option.bind_some, if_true, bne_self_eq_false, laws_FnExactTripsBound.j0, Bool.false_eq_true, if_false]
    rw [toCrewS_is l hl _ (by omega)]
    simp only [Option.bind_some]
    rw [eqCrewS_is _ (by omega) _ (by omega)]
    rfl

end Go.Proofs.Ythpfafngjlnoaaa.Pure
