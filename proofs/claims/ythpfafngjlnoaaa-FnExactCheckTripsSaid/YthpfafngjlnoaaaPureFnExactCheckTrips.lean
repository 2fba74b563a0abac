/- The program's CheckTrips returns what the reference's CheckTrips returns, for all seats, every list of crews and every list of numbers (of at most 2^20; longer ones the law lets by). -/
import Derived.Test.YthpfafngjlnoaaaPFnExactCheckTripsx3
namespace Go.Proofs.Ythpfafngjlnoaaa.Pure
open Go.RowKit Go.Proofs.Ythpfafngjlnoaaa.PFnExactCheckTrips Go.Proofs.YthpfafngjlnoaaaW.PrintWords Go.Proofs.YthpfafngjlnoaaaW.PrintLast Go.Proofs.YthpfafngjlnoaaaW.PrintMore
set_option linter.unusedVariables false
set_option linter.unusedSimpArgs false

theorem of_drop {α : Type} {xs : List α} {p : Nat} {x : α} {rest : List α} (h : xs.drop p = x :: rest) : p < xs.length ∧ xs.drop (p + 1) = rest ∧ ∀ d, xs.getD ((p : Int)).toNat d = x := by
  have hp : p < xs.length := by
    rcases Nat.lt_or_ge p xs.length with h1 | h1
    · exact h1
    · rw [List.drop_eq_nil_of_le h1] at h; cases h
  rw [List.drop_eq_getElem_cons hp] at h
  injection h with h1 h2
  refine ⟨hp, h2, fun d => ?_⟩
  rw [Int.toNat_natCast, List.getD_eq_getElem?_getD, List.getElem?_eq_getElem hp]
  exact h1

theorem of_drop_nil {α : Type} {xs : List α} {p : Nat} (h : xs.drop p = []) : xs.length ≤ p := List.drop_eq_nil_iff.1 h

theorem step64 {p n : Nat} (h : p < n) (hn : n ≤ 1152921504606846976) : wrap64 ((p : Int) + 1) = ((p + 1 : Nat) : Int) := by
  unfold wrap64
  omega

theorem take_set_at {α : Type} (ys : List α) (p : Nat) (v : α) (h : p < ys.length) : (ys.set p v).take (p + 1) = ys.take p ++ [v] := by
  rw [List.take_succ_eq_append_getElem (by simpa using h), List.take_set_of_le (Nat.le_refl _)]
  simp

theorem i8_in {a : Int} (h : (Lit.int .i8 a).wf = true) : -128 ≤ a ∧ a ≤ 127 := by
  simp [Lit.wf, IntKind.min, IntKind.max, IntKind.signed, IntKind.bits] at h
  omega

theorem i64_in {a : Int} (h : (Lit.int .i64 a).wf = true) : -9223372036854775808 ≤ a ∧ a ≤ 9223372036854775807 := by
  simp [Lit.wf, IntKind.min, IntKind.max, IntKind.signed, IntKind.bits] at h
  omega

theorem w64_id {a : Int} (h : -9223372036854775808 ≤ a ∧ a ≤ 9223372036854775807) : wrap64 a = a := by
  unfold wrap64
  omega

theorem w8_cases (a : Int) : IntKind.i8.wrap a = if a % 256 ≥ 128 then a % 256 - 256 else a % 256 := by
  simp [IntKind.wrap, IntKind.signed, IntKind.bits]

theorem some_dec {p q : Prop} [Decidable p] [Decidable q] (h : p ↔ q) : some (decide p) = some (decide q) := by rw [decide_eq_decide.2 h]
theorem some_decF {q : Prop} [Decidable q] (h : ¬ q) : some false = some (decide q) := by rw [decide_eq_false h]
theorem some_decT {q : Prop} [Decidable q] (h : q) : some true = some (decide q) := by rw [decide_eq_true h]

def cvC (x : S48) : S54 := ⟨⟨x.f0.f0, x.f0.f1⟩, x.f1⟩
def In8C (x : S54) : Prop := (-128 ≤ x.f0.f0 ∧ x.f0.f0 ≤ 127) ∧ (-128 ≤ x.f0.f1 ∧ x.f0.f1 ≤ 127) ∧ (-128 ≤ x.f1 ∧ x.f1 ≤ 127)

theorem toCrewS_l0 (l : List S48) (hl : l.length ≤ 1152921504606846976) : ∀ (rest : List S48) (p k : Nat) (ys : List S54), l.drop p = rest → ys.length = l.length → rest.length < k →
    laws_toCrewS.l0 k l ys (p : Int) = some (ys.take p ++ rest.map cvC) := by
  intro rest
  induction rest with
  | nil =>
    intro p k ys hd hy hk
    obtain ⟨k, rfl⟩ : ∃ m, k = m + 1 := ⟨k - 1, by simp at hk; omega⟩
    have := of_drop_nil hd
    simp only [laws_toCrewS.l0]
    rw [if_neg (by omega), List.take_of_length_le (by omega)]
    simp
  | cons x rest ih =>
    intro p k ys hd hy hk
    simp only [List.length_cons] at hk
    obtain ⟨k, rfl⟩ : ∃ m, k = m + 1 := ⟨k - 1, by omega⟩
    obtain ⟨hp, hd', hx⟩ := of_drop hd
    simp only [laws_toCrewS.l0, laws_toCrew.f, laws_toPlace.f, rd_T48, hx, Option.bind_some]
    rw [if_pos (by omega), if_pos (by omega), if_pos (by omega), step64 hp hl, ih (p + 1) k _ hd' (by simpa using hy) (by omega), Int.toNat_natCast, take_set_at _ _ _ (by omega)]
    simp [cvC]

theorem toCrewS_is (l : List S48) (hl : l.length ≤ 93824992236885) (k : Nat) (hk : l.length < k) : laws_toCrewS.f k l = some (l.map cvC) := by
  unfold laws_toCrewS.f
  rw [if_pos (by omega), if_pos (by omega)]
  have := toCrewS_l0 l (by omega) l 0 k (List.replicate (l.length : Int).toNat z54) rfl (by simp) hk
  simpa using this

theorem cvC_in {l : List S48} (h : ∀ x ∈ l, (Lit.int .i8 x.f0.f0).wf = true ∧ (Lit.int .i8 x.f0.f1).wf = true ∧ (Lit.int .i8 x.f1).wf = true) : ∀ x ∈ l.map cvC, In8C x := by
  intro x hx
  obtain ⟨y, hy, rfl⟩ := List.mem_map.1 hx
  exact ⟨i8_in (h y hy).1, i8_in (h y hy).2.1, i8_in (h y hy).2.2⟩

theorem eqCrewS_l0 (l : List S54) (hl : l.length ≤ 1152921504606846976) : ∀ (rest : List S54) (p k : Nat), l.drop p = rest → rest.length < k → laws_eqCrewS.l0 k l l (p : Int) = some true := by
  intro rest
  induction rest with
  | nil =>
    intro p k hd hk
    obtain ⟨k, rfl⟩ : ∃ m, k = m + 1 := ⟨k - 1, by simp at hk; omega⟩
    have := of_drop_nil hd
    simp only [laws_eqCrewS.l0]
    rw [if_neg (by omega)]
  | cons x rest ih =>
    intro p k hd hk
    simp only [List.length_cons] at hk
    obtain ⟨k, rfl⟩ : ∃ m, k = m + 1 := ⟨k - 1, by omega⟩
    obtain ⟨hp, hd', hx⟩ := of_drop hd
    simp only [laws_eqCrewS.l0, laws_eqCrew.f, laws_eqPlace.f, if_true, Option.bind_some]
    rw [if_pos (by omega), if_pos (by omega), if_pos (by omega), step64 hp hl]
    exact ih (p + 1) k hd' (by omega)

theorem eqCrewS_is (l : List S54) (hl : l.length ≤ 1152921504606846976) (k : Nat) (hk : l.length < k) : laws_eqCrewS.f k l l = some true := by
  unfold laws_eqCrewS.f
  rw [if_pos rfl]
  exact eqCrewS_l0 l hl l 0 k rfl hk

theorem szCrewS_is (l : List S48) (a : Int) (hl : l.length ≤ 93824992236885) (h0 : 0 ≤ a) (h1 : a ≤ 1048576) : laws_szCrewS.f l a = some (if a < l.length then -1 else a - l.length) := by
  unfold laws_szCrewS.f
  rw [w64_id (by omega)]
  by_cases h : a < l.length
  · rw [if_pos (by omega), if_pos h]
  · rw [if_neg (by omega), if_neg h]

def cnt (x : S54) : Bool := decide (1 ≤ x.f1 ∧ x.f1 ≤ 12)
theorem implCount_is (a b c : Int) : impl_isCount.f a b c = some (cnt ⟨⟨a, b⟩, c⟩) := by
  unfold impl_isCount.f
  show _ = some (decide (1 ≤ c ∧ c ≤ 12))
  repeat' split
  all_goals first | exact some_dec (by omega) | exact some_decF (by omega)
theorem l00In_is (a lo hi : Int) : spec_l00In.f a lo hi = some (decide (lo ≤ a ∧ a ≤ hi)) := by
  unfold spec_l00In.f
  repeat' split
  all_goals first | exact some_dec (by omega) | exact some_decF (by omega)
theorem specCount_is (a b c : Int) (h : In8C ⟨⟨a, b⟩, c⟩) : spec_l05Count.f a b c = some (cnt ⟨⟨a, b⟩, c⟩) := by
  unfold spec_l05Count.f
  have := h.2.2
  simp only at this
  rw [w64_id (by omega), l00In_is]
  rfl

def codeC (seats : Int) (l : List S54) : Int := if l.all cnt then (if 1 ≤ seats ∧ seats ≤ 12 then (if l.length > 6 then 3 else 0) else 2) else 1

theorem seatsCode_l0 (s : Int) (l : List S54) (hl : l.length ≤ 1152921504606846976) : ∀ (rest : List S54) (p k : Nat), l.drop p = rest → rest.length + 1 < k →
    impl_seatsCode.l0 k s l l (l.length : Int) (p : Int) = some (if rest.all cnt then (if 1 ≤ s ∧ s ≤ 12 then (if l.length > 6 then 3 else 0) else 2) else 1) := by
  intro rest
  induction rest with
  | nil =>
    intro p k hd hk
    obtain ⟨k, rfl⟩ : ∃ m, k = m + 2 := ⟨k - 2, by simp at hk; omega⟩
    have := of_drop_nil hd
    simp only [impl_seatsCode.l0, impl_seatsCode.j1]
    rw [if_neg (by omega), if_pos (show ([] : List S54).all cnt = true from rfl)]
    by_cases h1 : s < 1
    · simp only [if_pos h1, if_true]
      rw [if_neg (by omega)]
    · simp only [if_neg h1]
      by_cases h2 : s > 12
      · rw [if_pos (by simpa using h2), if_neg (by omega)]
      · rw [if_neg (by simpa using h2), if_pos (show 1 ≤ s ∧ s ≤ 12 by omega)]
        by_cases h : l.length > 6
        · rw [if_pos (show (l.length : Int) > 6 by omega), if_pos h]
        · rw [if_neg (show ¬ (l.length : Int) > 6 by omega), if_neg h]
  | cons x rest ih =>
    intro p k hd hk
    simp only [List.length_cons] at hk
    obtain ⟨k, rfl⟩ : ∃ m, k = m + 1 := ⟨k - 1, by omega⟩
    obtain ⟨hp, hd', hx⟩ := of_drop hd
    simp only [impl_seatsCode.l0, rd_T54, hx, implCount_is, Option.bind_some]
    rw [if_pos (by omega), if_pos (by omega), if_pos (by omega), step64 hp hl, ih (p + 1) k hd' (by omega)]
    cases hv : cnt x <;> simp [hv]

theorem seatsCode_is (s : Int) (l : List S54) (hl : l.length ≤ 1152921504606846976) (k : Nat) (hk : l.length + 1 < k) : impl_seatsCode.f k s l = some (codeC s l) := by
  unfold impl_seatsCode.f codeC
  exact seatsCode_l0 s l hl l 0 k rfl hk

theorem l05Seated_l0 (s : Int) (l : List S54) (hl : l.length ≤ 1152921504606846976) (h8 : ∀ x ∈ l, In8C x) : ∀ (rest : List S54) (p k : Nat), l.drop p = rest → rest.length < k →
    spec_l05Seated.l0 k s l (p : Int) = some (if rest.all cnt then (if 1 ≤ s ∧ s ≤ 12 then (if l.length > 6 then 3 else 0) else 2) else 1) := by
  intro rest
  induction rest with
  | nil =>
    intro p k hd hk
    obtain ⟨k, rfl⟩ : ∃ m, k = m + 1 := ⟨k - 1, by simp at hk; omega⟩
    have := of_drop_nil hd
    simp only [spec_l05Seated.l0, l00In_is, Option.bind_some]
    rw [if_neg (by omega), if_pos (show ([] : List S54).all cnt = true from rfl)]
    by_cases h1 : 1 ≤ s ∧ s ≤ 12
    · rw [if_pos (by simpa using h1), if_pos h1]
      by_cases h : l.length > 6
      · rw [if_pos (by omega), if_pos h]
      · rw [if_neg (by omega), if_neg h]
    · rw [if_neg (by simpa using h1), if_neg h1]
  | cons x rest ih =>
    intro p k hd hk
    simp only [List.length_cons] at hk
    obtain ⟨k, rfl⟩ : ∃ m, k = m + 1 := ⟨k - 1, by omega⟩
    obtain ⟨hp, hd', hx⟩ := of_drop hd
    have hx8 : In8C x := h8 x (List.mem_of_mem_drop (by rw [hd]; exact List.mem_cons_self))
    simp only [spec_l05Seated.l0, rd_T54, hx, specCount_is _ _ _ hx8, Option.bind_some]
    rw [if_pos (by omega), if_pos (by omega), step64 hp hl, ih (p + 1) k hd' (by omega)]
    cases hv : cnt x <;> simp [hv]

theorem l05Seated_is (s : Int) (l : List S54) (hl : l.length ≤ 1152921504606846976) (h8 : ∀ x ∈ l, In8C x) (k : Nat) (hk : l.length < k) : spec_l05Seated.f k s l = some (codeC s l) := by
  unfold spec_l05Seated.f codeC
  exact l05Seated_l0 s l hl h8 l 0 k rfl hk

theorem codeC_ok {s : Int} {l : List S54} (h : codeC s l = 0) : l.length ≤ 6 ∧ (1 ≤ s ∧ s ≤ 12) ∧ ∀ x ∈ l, cnt x = true := by
  unfold codeC at h
  split at h
  · rename_i ha
    split at h
    · rename_i hs
      split at h
      · cases h
      · exact ⟨by omega, hs, by simpa using ha⟩
    · cases h
  · cases h

theorem toInt64S_l0 (l : List Int) (hl : l.length ≤ 1152921504606846976) : ∀ (rest : List Int) (p k : Nat) (ys : List Int), l.drop p = rest → ys.length = l.length → rest.length < k →
    laws_toInt64S.l0 k l ys (p : Int) = some (ys.take p ++ rest) := by
  intro rest
  induction rest with
  | nil =>
    intro p k ys hd hy hk
    obtain ⟨k, rfl⟩ : ∃ m, k = m + 1 := ⟨k - 1, by simp at hk; omega⟩
    have := of_drop_nil hd
    simp only [laws_toInt64S.l0]
    rw [if_neg (by omega), List.take_of_length_le (by omega)]
    simp
  | cons x rest ih =>
    intro p k ys hd hy hk
    simp only [List.length_cons] at hk
    obtain ⟨k, rfl⟩ : ∃ m, k = m + 1 := ⟨k - 1, by omega⟩
    obtain ⟨hp, hd', hx⟩ := of_drop hd
    simp only [laws_toInt64S.l0, rd, hx, Option.bind_some]
    rw [if_pos (by omega), if_pos (by omega), if_pos (by omega), step64 hp hl, ih (p + 1) k _ hd' (by simpa using hy) (by omega), Int.toNat_natCast, take_set_at _ _ _ (by omega)]
    simp
theorem toInt64S_is (l : List Int) (hl : l.length * 8 ≤ 140737488351232) (k : Nat) (hk : l.length < k) : laws_toInt64S.f k l = some l := by
  unfold laws_toInt64S.f
  rw [if_pos (by omega), if_pos (by omega)]
  have := toInt64S_l0 l (by omega) l 0 k (List.replicate (l.length : Int).toNat 0) rfl (by simp) hk
  simpa using this

def Bd (sums : List Int) (B : Int) : Prop := sums.length = 6 ∧ ∀ i : Nat, i < 6 → 0 ≤ sums.getD i 0 ∧ sums.getD i 0 ≤ B

theorem getD_set {sums : List Int} {n : Nat} (v : Int) (hn : n < sums.length) (i : Nat) : (sums.set n v).getD i 0 = if i = n then v else sums.getD i 0 := by
  by_cases h : i = n
  · subst h
    rw [if_pos rfl, List.getD_eq_getElem?_getD, List.getElem?_set_self hn]
    rfl
  · rw [if_neg h, List.getD_eq_getElem?_getD, List.getElem?_set_ne (by omega), List.getD_eq_getElem?_getD]

theorem Bd.set {sums : List Int} {B c : Int} (h : Bd sums B) {n : Nat} (hn : n < 6) (h0 : 1 ≤ c) (h1 : c ≤ 12) : Bd (sums.set n (sums.getD n 0 + c)) (B + 12) := by
  refine ⟨by simpa using h.1, fun i hi => ?_⟩
  rw [getD_set _ (by rw [h.1]; exact hn)]
  have a := h.2 i hi
  have b := h.2 n hn
  split <;> omega

def fits (s : Int) (o : Option (List Int)) : Bool := match o with | some sums => sums.all fun x => decide (x ≤ s) | none => false

theorem cnt_in {x : S54} (h : cnt x = true) : 1 ≤ x.f1 ∧ x.f1 ≤ 12 := by simpa [cnt] using h

theorem fits_over (s : Int) : ∀ (xs : List S54) (ns sums : List Int) (B : Int), (∀ x ∈ xs, cnt x = true) → Bd sums B → B + 12 * xs.length ≤ 1000000 → (∃ i : Nat, i < 6 ∧ s < sums.getD i 0) → fits s (rightGo xs ns sums) = false := by
  intro xs
  induction xs with
  | nil =>
    intro ns sums B _ hb _ ⟨i, hi, hs⟩
    have : rightGo ([] : List S54) ns sums = some sums := by cases ns <;> rfl
    rw [this]
    simp only [fits]
    rw [Bool.eq_false_iff]
    intro ha
    have hm := List.all_eq_true.1 ha (sums.getD i 0) (by
      rw [List.getD_eq_getElem?_getD, List.getElem?_eq_getElem (by rw [hb.1]; exact hi)]
      exact List.getElem_mem _)
    simp only [decide_eq_true_eq] at hm
    omega
  | cons x xs ih =>
    intro ns sums B hc hb hB ⟨i, hi, hs⟩
    cases ns with
    | nil =>
      have := fits
      simp only [rightGo, fits]
      rw [Bool.eq_false_iff]
      intro ha
      have hm := List.all_eq_true.1 ha (sums.getD i 0) (by
        rw [List.getD_eq_getElem?_getD, List.getElem?_eq_getElem (by rw [hb.1]; exact hi)]
        exact List.getElem_mem _)
      simp only [decide_eq_true_eq] at hm
      omega
    | cons n ns =>
      simp only [rightGo]
      split
      · rename_i hn
        have hx := cnt_in (hc x List.mem_cons_self)
        have hb' := hb.set (n := n.toNat) (by omega) hx.1 hx.2
        have hbn := hb.2 n.toNat (by omega)
        simp only [List.length_cons] at hB
        rw [w64_id (a := x.f1) (by omega), rd, w64_id (by omega)]
        refine ih ns _ (B + 12) (fun y hy => hc y (List.mem_cons_of_mem _ hy)) hb' (by omega) ⟨i, hi, ?_⟩
        rw [getD_set _ (by rw [hb.1]; omega)]
        split
        · rename_i e
          subst e
          omega
        · exact hs
      · rfl

theorem tripsGo_is (s : Int) : ∀ (xs : List S54) (ns sums : List Int) (B : Int), (∀ x ∈ xs, cnt x = true) → Bd sums B → B + 12 * xs.length ≤ 1000000 → (∀ i : Nat, i < 6 → sums.getD i 0 ≤ s) → tripsGo s xs ns sums = fits s (rightGo xs ns sums) := by
  intro xs
  have base : ∀ sums : List Int, (∃ B, Bd sums B) → (∀ i : Nat, i < 6 → sums.getD i 0 ≤ s) → true = fits s (some sums) := by
    rintro sums ⟨B, hb⟩ hs
    simp only [fits]
    refine (List.all_eq_true.2 fun y hy => ?_).symm
    obtain ⟨i, hi, e⟩ := List.getElem_of_mem hy
    have := hs i (by rw [hb.1] at hi; exact hi)
    rw [List.getD_eq_getElem?_getD, List.getElem?_eq_getElem hi] at this
    rw [e] at this
    simpa using this
  induction xs with
  | nil =>
    intro ns sums B _ hb _ hs
    have e1 : rightGo ([] : List S54) ns sums = some sums := by cases ns <;> rfl
    have e2 : tripsGo s ([] : List S54) ns sums = true := by cases ns <;> rfl
    rw [e1, e2]
    exact base sums ⟨B, hb⟩ hs
  | cons x xs ih =>
    intro ns sums B hc hb hB hs
    cases ns with
    | nil => exact base sums ⟨B, hb⟩ hs
    | cons n ns =>
      simp only [rightGo, tripsGo]
      by_cases hn : 0 ≤ n ∧ n ≤ 5
      · have hx := cnt_in (hc x List.mem_cons_self)
        have hb' := hb.set (n := n.toNat) (by omega) hx.1 hx.2
        have hbn := hb.2 n.toNat (by omega)
        simp only [List.length_cons] at hB
        rw [if_pos hn, if_neg (by omega), if_neg (by omega), w64_id (a := x.f1) (by omega), rd, w64_id (by omega)]
        by_cases hv : s < sums.getD n.toNat 0 + x.f1
        · rw [if_pos hv]
          refine (fits_over s xs ns _ (B + 12) (fun y hy => hc y (List.mem_cons_of_mem _ hy)) hb' (by omega) ⟨n.toNat, by omega, ?_⟩).symm
          rw [getD_set _ (by rw [hb.1]; omega), if_pos rfl]
          exact hv
        · rw [if_neg hv]
          refine ih ns _ (B + 12) (fun y hy => hc y (List.mem_cons_of_mem _ hy)) hb' (by omega) (fun i hi => ?_)
          rw [getD_set _ (by rw [hb.1]; omega)]
          split
          · omega
          · exact hs i hi
      · rw [if_neg hn]
        by_cases h0 : n < 0
        · rw [if_pos h0]; rfl
        · rw [if_neg h0, if_pos (by omega)]; rfl

theorem right_is (s : Int) (l : List S54) (t : List Int) (h : codeC s l = 0) : impl_areTrips.f s l t = spec_l05Right.f s l t := by
  obtain ⟨h6, hs, hc⟩ := codeC_ok h
  unfold impl_areTrips.f spec_l05Right.f
  split
  · have := tripsGo_is s l t [0, 0, 0, 0, 0, 0] 0 hc ⟨rfl, fun i hi => by
      match i, hi with
      | 0, _ => decide
      | 1, _ => decide
      | 2, _ => decide
      | 3, _ => decide
      | 4, _ => decide
      | 5, _ => decide⟩ (by omega) (fun i hi => by
      have : [(0 : Int), 0, 0, 0, 0, 0].getD i 0 = 0 := by
        match i, hi with
        | 0, _ => rfl
        | 1, _ => rfl
        | 2, _ => rfl
        | 3, _ => rfl
        | 4, _ => rfl
        | 5, _ => rfl
      omega)
    rw [this]
    rfl
  · rfl

/-! The law's harness over a result that is a list of whole numbers. -/
theorem eqInt64S_l0 (l : List Int) (hl : l.length ≤ 1152921504606846976) : ∀ (rest : List Int) (p k : Nat), l.drop p = rest → rest.length < k → laws_eqInt64S.l0 k l l (p : Int) = some true := by
  intro rest
  induction rest with
  | nil =>
    intro p k hd hk
    obtain ⟨k, rfl⟩ : ∃ m, k = m + 1 := ⟨k - 1, by simp at hk; omega⟩
    have := of_drop_nil hd
    simp only [laws_eqInt64S.l0]
    rw [if_neg (by omega)]
  | cons x rest ih =>
    intro p k hd hk
    simp only [List.length_cons] at hk
    obtain ⟨k, rfl⟩ : ∃ m, k = m + 1 := ⟨k - 1, by omega⟩
    obtain ⟨hp, hd', hx⟩ := of_drop hd
    simp only [laws_eqInt64S.l0, if_true]
    rw [if_pos (by omega), if_pos (by omega), if_pos (by omega), step64 hp hl]
    exact ih (p + 1) k hd' (by omega)

theorem eqInt64S_is (l : List Int) (hl : l.length ≤ 1152921504606846976) (k : Nat) (hk : l.length < k) : laws_eqInt64S.f k l l = some true := by
  unfold laws_eqInt64S.f
  rw [if_pos rfl]
  exact eqInt64S_l0 l hl l 0 k rfl hk

/-- The law, in plain Lean. -/
def FnExactCheckTrips.Said : Prop := ∀ (a0 : Int) (l1 : List S48) (l2 : List Int), (Lit.int .i64 a0).wf = true → l1.length ≤ maxLen → l1.length * 3 ≤ 140737488351232 → (∀ x ∈ l1, (Lit.int .i8 x.f0.f0).wf = true ∧ (Lit.int .i8 x.f0.f1).wf = true ∧ (Lit.int .i8 x.f1).wf = true) → l2.length ≤ maxLen → l2.length * 8 ≤ 140737488351232 → (∀ x ∈ l2, (Lit.int .i64 x).wf = true) → ∃ k, laws_FnExactCheckTrips.f k a0 l1 l2 = some true

def checkR (s : Int) (l : List S54) (t : List Int) : Option (Bool × Int) := if codeC s l = 0 then (spec_l05Right.f s l t).bind fun b => some (b, 0) else some (false, codeC s l)

theorem specCheck_is (s : Int) (l : List S54) (t : List Int) (hl : l.length ≤ 93824992236885) (h8 : ∀ x ∈ l, In8C x) (k : Nat) (hk : l.length < k) : spec_CheckTrips.f k s l t = checkR s l t := by
  unfold spec_CheckTrips.f checkR
  rw [l05Seated_is s l (by omega) h8 k hk]
  simp only [Option.bind_some]

theorem implCheck_is (s : Int) (l : List S54) (t : List Int) (hl : l.length ≤ 93824992236885) (k : Nat) (hk : l.length + 1 < k) : impl_CheckTrips.f k s l t = checkR s l t := by
  unfold impl_CheckTrips.f checkR
  rw [seatsCode_is s l (by omega) k hk]
  simp only [Option.bind_some]
  split
  · rename_i hc
    rw [right_is s l t hc]
  · rfl

theorem checkR_some (s : Int) (l : List S54) (t : List Int) : ∃ b c, checkR s l t = some (b, c) := by
  unfold checkR spec_l05Right.f
  split
  · exact ⟨_, _, rfl⟩
  · exact ⟨_, _, rfl⟩

theorem FnExactCheckTrips : FnExactCheckTrips.Said := by
  intro s l t hs hm hy hok hm' hy' hok'
  have hl : l.length ≤ 93824992236885 := by omega
  have h8 := cvC_in hok
  have hlm : (l.map cvC).length = l.length := List.length_map ..
  refine ⟨l.length + t.length + 4, ?_⟩
  unfold laws_FnExactCheckTrips.f
  by_cases bigt : (t.length : Int) > 1048576
  · rw [if_pos bigt]
  rw [if_neg bigt, szCrewS_is l _ hl (by omega) (by omega)]
  simp only [Option.bind_some]
  by_cases big : (1048576 : Int) < l.length
  · rw [if_pos big]; rfl
  · rw [if_neg big, if_neg (by omega), toCrewS_is l hl _ (by omega), toInt64S_is t hy' _ (by omega)]
    simp only [Option.bind_some]
    rw [specCheck_is s _ t (by omega) h8 _ (by omega), implCheck_is s _ t (by omega) _ (by omega)]
    obtain ⟨b, c, e⟩ := checkR_some s (l.map cvC) t
    rw [e]
    simp only [Option.bind_some, bne_self_eq_false, laws_FnExactCheckTrips.j0, Bool.false_eq_true, if_false]
    rw [toCrewS_is l hl _ (by omega)]
    simp only [Option.bind_some]
    rw [eqCrewS_is _ (by omega) _ (by omega)]
    simp only [Option.bind_some, if_true]
    rw [toInt64S_is t hy' _ (by omega)]
    simp only [Option.bind_some]
    rw [eqInt64S_is _ (by omega) _ (by omega)]
    rfl

end Go.Proofs.Ythpfafngjlnoaaa.Pure
