/- The program's FewestTrips returns what the reference's FewestTrips returns, for all seats and every list of crews (of at most 2^20; longer ones the law lets by). -/
import Derived.Test.YtpimdgkofgendaaPFnExactFewestTripsx5
namespace Go.Proofs.Ytpimdgkofgendaa.Pure
open Go.RowKit Go.Proofs.Ytpimdgkofgendaa.PFnExactFewestTrips Go.Proofs.YtpimdgkofgendaaW.PrintWords Go.Proofs.YtpimdgkofgendaaW.PrintLast Go.Proofs.YtpimdgkofgendaaW.PrintMore
set_option linter.unusedVariables false
set_option linter.unusedSimpArgs false

theorem of_drop {α : Type} {xs : List α} {p : Nat} {x : α} {rest : List α} (h : xs.drop p = x :: rest) : p < xs.length ∧ xs.drop (p + 1) = rest ∧ ∀ d, xs.getD ((p : Int)).toNat d = x := by
  have hp : p < xs.length := by
    rcases Nat.lt_or_ge p xs.length with h1 | h1
    · exact h1
    · rw [List.drop_eq_nil_of_le h1] at h; cases h
  rw [List.drop_eq_getElem_cons hp] at h
  injection h with h1 h2
  refine ⟨hp, h2, fun d => ?_⟩
  rw [Int.toNat_natCast, List.getD_eq_getElem?_getD, List.getElem?_eq_getElem hp]
  exact h1

theorem of_drop_nil {α : Type} {xs : List α} {p : Nat} (h : xs.drop p = []) : xs.length ≤ p := List.drop_eq_nil_iff.1 h

theorem step64 {p n : Nat} (h : p < n) (hn : n ≤ 1152921504606846976) : wrap64 ((p : Int) + 1) = ((p + 1 : Nat) : Int) := by
  unfold wrap64
  omega

theorem take_set_at {α : Type} (ys : List α) (p : Nat) (v : α) (h : p < ys.length) : (ys.set p v).take (p + 1) = ys.take p ++ [v] := by
  rw [List.take_succ_eq_append_getElem (by simpa using h), List.take_set_of_le (Nat.le_refl _)]
  simp

theorem i8_in {a : Int} (h : (Lit.int .i8 a).wf = true) : -128 ≤ a ∧ a ≤ 127 := by
  simp [Lit.wf, IntKind.min, IntKind.max, IntKind.signed, IntKind.bits] at h
  omega

theorem i64_in {a : Int} (h : (Lit.int .i64 a).wf = true) : -9223372036854775808 ≤ a ∧ a ≤ 9223372036854775807 := by
  simp [Lit.wf, IntKind.min, IntKind.max, IntKind.signed, IntKind.bits] at h
  omega

theorem w64_id {a : Int} (h : -9223372036854775808 ≤ a ∧ a ≤ 9223372036854775807) : wrap64 a = a := by
  unfold wrap64
  omega

theorem w8_cases (a : Int) : IntKind.i8.wrap a = if a % 256 ≥ 128 then a % 256 - 256 else a % 256 := by
  simp [IntKind.wrap, IntKind.signed, IntKind.bits]

theorem some_dec {p q : Prop} [Decidable p] [Decidable q] (h : p ↔ q) : some (decide p) = some (decide q) := by rw [decide_eq_decide.2 h]
theorem some_decF {q : Prop} [Decidable q] (h : ¬ q) : some false = some (decide q) := by rw [decide_eq_false h]
theorem some_decT {q : Prop} [Decidable q] (h : q) : some true = some (decide q) := by rw [decide_eq_true h]

def cvC (x : S94) : S90 := ⟨⟨x.f0.f0, x.f0.f1⟩, x.f1⟩
def In8C (x : S90) : Prop := (-128 ≤ x.f0.f0 ∧ x.f0.f0 ≤ 127) ∧ (-128 ≤ x.f0.f1 ∧ x.f0.f1 ≤ 127) ∧ (-128 ≤ x.f1 ∧ x.f1 ≤ 127)

theorem toCrewS_l0 (l : List S94) (hl : l.length ≤ 1152921504606846976) : ∀ (rest : List S94) (p k : Nat) (ys : List S90), l.drop p = rest → ys.length = l.length → rest.length < k →
    laws_toCrewS.l0 k l ys (p : Int) = some (ys.take p ++ rest.map cvC) := by
  intro rest
  induction rest with
  | nil =>
    intro p k ys hd hy hk
    obtain ⟨k, rfl⟩ : ∃ m, k = m + 1 := ⟨k - 1, by simp at hk; omega⟩
    have := of_drop_nil hd
    simp only [laws_toCrewS.l0]
    rw [if_neg (by omega), List.take_of_length_le (by omega)]
    simp
  | cons x rest ih =>
    intro p k ys hd hy hk
    simp only [List.length_cons] at hk
    obtain ⟨k, rfl⟩ : ∃ m, k = m + 1 := ⟨k - 1, by omega⟩
    obtain ⟨hp, hd', hx⟩ := of_drop hd
    simp only [laws_toCrewS.l0, laws_toCrew.f, laws_toPlace.f, rd_T94, hx, Option.bind_some]
    rw [if_pos (by omega), if_pos (by omega), if_pos (by omega), step64 hp hl, ih (p + 1) k _ hd' (by simpa using hy) (by omega), Int.toNat_natCast, take_set_at _ _ _ (by omega)]
    simp [cvC]

theorem toCrewS_is (l : List S94) (hl : l.length ≤ 93824992236885) (k : Nat) (hk : l.length < k) : laws_toCrewS.f k l = some (l.map cvC) := by
  unfold laws_toCrewS.f
  rw [if_pos (by omega), if_pos (by omega)]
  have := toCrewS_l0 l (by omega) l 0 k (List.replicate (l.length : Int).toNat z90) rfl (by simp) hk
  simpa using this

theorem cvC_in {l : List S94} (h : ∀ x ∈ l, (Lit.int .i8 x.f0.f0).wf = true ∧ (Lit.int .i8 x.f0.f1).wf = true ∧ (Lit.int .i8 x.f1).wf = true) : ∀ x ∈ l.map cvC, In8C x := by
  intro x hx
  obtain ⟨y, hy, rfl⟩ := List.mem_map.1 hx
  exact ⟨i8_in (h y hy).1, i8_in (h y hy).2.1, i8_in (h y hy).2.2⟩

theorem eqCrewS_l0 (l : List S90) (hl : l.length ≤ 1152921504606846976) : ∀ (rest : List S90) (p k : Nat), l.drop p = rest → rest.length < k → laws_eqCrewS.l0 k l l (p : Int) = some true := by
  intro rest
  induction rest with
  | nil =>
    intro p k hd hk
    obtain ⟨k, rfl⟩ : ∃ m, k = m + 1 := ⟨k - 1, by simp at hk; omega⟩
    have := of_drop_nil hd
    simp only [laws_eqCrewS.l0]
    rw [if_neg (by omega)]
  | cons x rest ih =>
    intro p k hd hk
    simp only [List.length_cons] at hk
    obtain ⟨k, rfl⟩ : ∃ m, k = m + 1 := ⟨k - 1, by omega⟩
    obtain ⟨hp, hd', hx⟩ := of_drop hd
    simp only [laws_eqCrewS.l0, laws_eqCrew.f, laws_eqPlace.f, if_true, Option.bind_some]
    rw [if_pos (by omega), if_pos (by omega), if_pos (by omega), step64 hp hl]
    exact ih (p + 1) k hd' (by omega)

theorem eqCrewS_is (l : List S90) (hl : l.length ≤ 1152921504606846976) (k : Nat) (hk : l.length < k) : laws_eqCrewS.f k l l = some true := by
  unfold laws_eqCrewS.f
  rw [if_pos rfl]
  exact eqCrewS_l0 l hl l 0 k rfl hk

theorem szCrewS_is (l : List S94) (a : Int) (hl : l.length ≤ 93824992236885) (h0 : 0 ≤ a) (h1 : a ≤ 1048576) : laws_szCrewS.f l a = some (if a < l.length then -1 else a - l.length) := by
  unfold laws_szCrewS.f
  rw [w64_id (by omega)]
  by_cases h : a < l.length
  · rw [if_pos (by omega), if_pos h]
  · rw [if_neg (by omega), if_neg h]

def cnt (x : S90) : Bool := decide (1 ≤ x.f1 ∧ x.f1 ≤ 12)
theorem implCount_is (a b c : Int) : impl_isCount.f a b c = some (cnt ⟨⟨a, b⟩, c⟩) := by
  unfold impl_isCount.f
  show _ = some (decide (1 ≤ c ∧ c ≤ 12))
  repeat' split
  all_goals first | exact some_dec (by omega) | exact some_decF (by omega)
theorem l00In_is (a lo hi : Int) : spec_l00In.f a lo hi = some (decide (lo ≤ a ∧ a ≤ hi)) := by
  unfold spec_l00In.f
  repeat' split
  all_goals first | exact some_dec (by omega) | exact some_decF (by omega)
theorem specCount_is (a b c : Int) (h : In8C ⟨⟨a, b⟩, c⟩) : spec_l05Count.f a b c = some (cnt ⟨⟨a, b⟩, c⟩) := by
  unfold spec_l05Count.f
  have := h.2.2
  simp only at this
  rw [w64_id (by omega), l00In_is]
  rfl

def codeC (seats : Int) (l : List S90) : Int := if l.all cnt then (if 1 ≤ seats ∧ seats ≤ 12 then (if l.length > 6 then 3 else 0) else 2) else 1

theorem seatsCode_l0 (s : Int) (l : List S90) (hl : l.length ≤ 1152921504606846976) : ∀ (rest : List S90) (p k : Nat), l.drop p = rest → rest.length + 1 < k →
    impl_seatsCode.l0 k s l l (l.length : Int) (p : Int) = some (if rest.all cnt then (if 1 ≤ s ∧ s ≤ 12 then (if l.length > 6 then 3 else 0) else 2) else 1) := by
  intro rest
  induction rest with
  | nil =>
    intro p k hd hk
    obtain ⟨k, rfl⟩ : ∃ m, k = m + 2 := ⟨k - 2, by simp at hk; omega⟩
    have := of_drop_nil hd
    simp only [impl_seatsCode.l0, impl_seatsCode.j1]
    rw [if_neg (by omega), if_pos (show ([] : List S90).all cnt = true from rfl)]
    by_cases h1 : s < 1
    · simp only [if_pos h1, if_true]
      rw [if_neg (by omega)]
    · simp only [if_neg h1]
      by_cases h2 : s > 12
      · rw [if_pos (by simpa using h2), if_neg (by omega)]
      · rw [if_neg (by simpa using h2), if_pos (show 1 ≤ s ∧ s ≤ 12 by omega)]
        by_cases h : l.length > 6
        · rw [if_pos (show (l.length : Int) > 6 by omega), if_pos h]
        · rw [if_neg (show ¬ (l.length : Int) > 6 by omega), if_neg h]
  | cons x rest ih =>
    intro p k hd hk
    simp only [List.length_cons] at hk
    obtain ⟨k, rfl⟩ : ∃ m, k = m + 1 := ⟨k - 1, by omega⟩
    obtain ⟨hp, hd', hx⟩ := of_drop hd
    simp only [impl_seatsCode.l0, rd_T90, hx, implCount_is, Option.bind_some]
    rw [if_pos (by omega), if_pos (by omega), if_pos (by omega), step64 hp hl, ih (p + 1) k hd' (by omega)]
    cases hv : cnt x <;> simp [hv]

theorem seatsCode_is (s : Int) (l : List S90) (hl : l.length ≤ 1152921504606846976) (k : Nat) (hk : l.length + 1 < k) : impl_seatsCode.f k s l = some (codeC s l) := by
  unfold impl_seatsCode.f codeC
  exact seatsCode_l0 s l hl l 0 k rfl hk

theorem l05Seated_l0 (s : Int) (l : List S90) (hl : l.length ≤ 1152921504606846976) (h8 : ∀ x ∈ l, In8C x) : ∀ (rest : List S90) (p k : Nat), l.drop p = rest → rest.length < k →
    spec_l05Seated.l0 k s l (p : Int) = some (if rest.all cnt then (if 1 ≤ s ∧ s ≤ 12 then (if l.length > 6 then 3 else 0) else 2) else 1) := by
  intro rest
  induction rest with
  | nil =>
    intro p k hd hk
    obtain ⟨k, rfl⟩ : ∃ m, k = m + 1 := ⟨k - 1, by simp at hk; omega⟩
    have := of_drop_nil hd
    simp only [spec_l05Seated.l0, l00In_is, Option.bind_some]
    rw [if_neg (by omega), if_pos (show ([] : List S90).all cnt = true from rfl)]
    by_cases h1 : 1 ≤ s ∧ s ≤ 12
    · rw [if_pos (by simpa using h1), if_pos h1]
      by_cases h : l.length > 6
      · rw [if_pos (by omega), if_pos h]
      · rw [if_neg (by omega), if_neg h]
    · rw [if_neg (by simpa using h1), if_neg h1]
  | cons x rest ih =>
    intro p k hd hk
    simp only [List.length_cons] at hk
    obtain ⟨k, rfl⟩ : ∃ m, k = m + 1 := ⟨k - 1, by omega⟩
    obtain ⟨hp, hd', hx⟩ := of_drop hd
    have hx8 : In8C x := h8 x (List.mem_of_mem_drop (by rw [hd]; exact List.mem_cons_self))
    simp only [spec_l05Seated.l0, rd_T90, hx, specCount_is _ _ _ hx8, Option.bind_some]
    rw [if_pos (by omega), if_pos (by omega), step64 hp hl, ih (p + 1) k hd' (by omega)]
    cases hv : cnt x <;> simp [hv]

theorem l05Seated_is (s : Int) (l : List S90) (hl : l.length ≤ 1152921504606846976) (h8 : ∀ x ∈ l, In8C x) (k : Nat) (hk : l.length < k) : spec_l05Seated.f k s l = some (codeC s l) := by
  unfold spec_l05Seated.f codeC
  exact l05Seated_l0 s l hl h8 l 0 k rfl hk

theorem codeC_ok {s : Int} {l : List S90} (h : codeC s l = 0) : l.length ≤ 6 ∧ (1 ≤ s ∧ s ≤ 12) ∧ ∀ x ∈ l, cnt x = true := by
  unfold codeC at h
  split at h
  · rename_i ha
    split at h
    · rename_i hs
      split at h
      · cases h
      · exact ⟨by omega, hs, by simpa using ha⟩
    · cases h
  · cases h

def fitAll (s : Int) (l : List S90) : Bool := l.all fun x => decide (wrap64 x.f1 ≤ s)
theorem most_l0 (s : Int) (l : List S90) (hl : l.length ≤ 1152921504606846976) : ∀ (rest : List S90) (p k : Nat), l.drop p = rest → rest.length < k →
    spec_l05Most.l0 k s l (p : Int) = some (fitAll s rest) := by
  intro rest
  induction rest with
  | nil =>
    intro p k hd hk
    obtain ⟨k, rfl⟩ : ∃ m, k = m + 1 := ⟨k - 1, by simp at hk; omega⟩
    have := of_drop_nil hd
    simp only [spec_l05Most.l0]
    rw [if_neg (by omega)]
    rfl
  | cons x rest ih =>
    intro p k hd hk
    simp only [List.length_cons] at hk
    obtain ⟨k, rfl⟩ : ∃ m, k = m + 1 := ⟨k - 1, by omega⟩
    obtain ⟨hp, hd', hx⟩ := of_drop hd
    simp only [spec_l05Most.l0, rd_T90, hx, fitAll, List.all_cons]
    rw [if_pos (by omega), if_pos (by omega)]
    by_cases h : wrap64 x.f1 > s
    · rw [if_pos h, decide_eq_false (by omega)]; rfl
    · rw [if_neg h, decide_eq_true (by omega), step64 hp hl, ih (p + 1) k hd' (by omega), Bool.true_and]; rfl
theorem most_is (s : Int) (l : List S90) (hl : l.length ≤ 1152921504606846976) (k : Nat) (hk : l.length < k) : spec_l05Most.f k s l = some (fitAll s l) := by
  unfold spec_l05Most.f
  exact most_l0 s l hl l 0 k rfl hk

def Bd (sums : List Int) (B : Int) : Prop := sums.length = 6 ∧ ∀ i : Nat, i < 6 → 0 ≤ sums.getD i 0 ∧ sums.getD i 0 ≤ B

theorem getD_set {sums : List Int} {n : Nat} (v : Int) (hn : n < sums.length) (i : Nat) : (sums.set n v).getD i 0 = if i = n then v else sums.getD i 0 := by
  by_cases h : i = n
  · subst h
    rw [if_pos rfl, List.getD_eq_getElem?_getD, List.getElem?_set_self hn]
    rfl
  · rw [if_neg h, List.getD_eq_getElem?_getD, List.getElem?_set_ne (by omega), List.getD_eq_getElem?_getD]

theorem Bd.set {sums : List Int} {B c : Int} (h : Bd sums B) {n : Nat} (hn : n < 6) (h0 : 1 ≤ c) (h1 : c ≤ 12) : Bd (sums.set n (sums.getD n 0 + c)) (B + 12) := by
  refine ⟨by simpa using h.1, fun i hi => ?_⟩
  rw [getD_set _ (by rw [h.1]; exact hn)]
  have a := h.2 i hi
  have b := h.2 n hn
  split <;> omega

def fits (s : Int) (o : Option (List Int)) : Bool := match o with | some sums => sums.all fun x => decide (x ≤ s) | none => false

theorem cnt_in {x : S90} (h : cnt x = true) : 1 ≤ x.f1 ∧ x.f1 ≤ 12 := by simpa [cnt] using h

theorem fits_over (s : Int) : ∀ (xs : List S90) (ns sums : List Int) (B : Int), (∀ x ∈ xs, cnt x = true) → Bd sums B → B + 12 * xs.length ≤ 1000000 → (∃ i : Nat, i < 6 ∧ s < sums.getD i 0) → fits s (rightGo xs ns sums) = false := by
  intro xs
  induction xs with
  | nil =>
    intro ns sums B _ hb _ ⟨i, hi, hs⟩
    have : rightGo ([] : List S90) ns sums = some sums := by cases ns <;> rfl
    rw [this]
    simp only [fits]
    rw [Bool.eq_false_iff]
    intro ha
    have hm := List.all_eq_true.1 ha (sums.getD i 0) (by
      rw [List.getD_eq_getElem?_getD, List.getElem?_eq_getElem (by rw [hb.1]; exact hi)]
      exact List.getElem_mem _)
    simp only [decide_eq_true_eq] at hm
    omega
  | cons x xs ih =>
    intro ns sums B hc hb hB ⟨i, hi, hs⟩
    cases ns with
    | nil =>
      have := fits
      simp only [rightGo, fits]
      rw [Bool.eq_false_iff]
      intro ha
      have hm := List.all_eq_true.1 ha (sums.getD i 0) (by
        rw [List.getD_eq_getElem?_getD, List.getElem?_eq_getElem (by rw [hb.1]; exact hi)]
        exact List.getElem_mem _)
      simp only [decide_eq_true_eq] at hm
      omega
    | cons n ns =>
      simp only [rightGo]
      split
      · rename_i hn
        have hx := cnt_in (hc x List.mem_cons_self)
        have hb' := hb.set (n := n.toNat) (by omega) hx.1 hx.2
        have hbn := hb.2 n.toNat (by omega)
        simp only [List.length_cons] at hB
        rw [w64_id (a := x.f1) (by omega), rd, w64_id (by omega)]
        refine ih ns _ (B + 12) (fun y hy => hc y (List.mem_cons_of_mem _ hy)) hb' (by omega) ⟨i, hi, ?_⟩
        rw [getD_set _ (by rw [hb.1]; omega)]
        split
        · rename_i e
          subst e
          omega
        · exact hs
      · rfl

theorem tripsGo_is (s : Int) : ∀ (xs : List S90) (ns sums : List Int) (B : Int), (∀ x ∈ xs, cnt x = true) → Bd sums B → B + 12 * xs.length ≤ 1000000 → (∀ i : Nat, i < 6 → sums.getD i 0 ≤ s) → tripsGo s xs ns sums = fits s (rightGo xs ns sums) := by
  intro xs
  have base : ∀ sums : List Int, (∃ B, Bd sums B) → (∀ i : Nat, i < 6 → sums.getD i 0 ≤ s) → true = fits s (some sums) := by
    rintro sums ⟨B, hb⟩ hs
    simp only [fits]
    refine (List.all_eq_true.2 fun y hy => ?_).symm
    obtain ⟨i, hi, e⟩ := List.getElem_of_mem hy
    have := hs i (by rw [hb.1] at hi; exact hi)
    rw [List.getD_eq_getElem?_getD, List.getElem?_eq_getElem hi] at this
    rw [e] at this
    simpa using this
  induction xs with
  | nil =>
    intro ns sums B _ hb _ hs
    have e1 : rightGo ([] : List S90) ns sums = some sums := by cases ns <;> rfl
    have e2 : tripsGo s ([] : List S90) ns sums = true := by cases ns <;> rfl
    rw [e1, e2]
    exact base sums ⟨B, hb⟩ hs
  | cons x xs ih =>
    intro ns sums B hc hb hB hs
    cases ns with
    | nil => exact base sums ⟨B, hb⟩ hs
    | cons n ns =>
      simp only [rightGo, tripsGo]
      by_cases hn : 0 ≤ n ∧ n ≤ 5
      · have hx := cnt_in (hc x List.mem_cons_self)
        have hb' := hb.set (n := n.toNat) (by omega) hx.1 hx.2
        have hbn := hb.2 n.toNat (by omega)
        simp only [List.length_cons] at hB
        rw [if_pos hn, if_neg (by omega), if_neg (by omega), w64_id (a := x.f1) (by omega), rd, w64_id (by omega)]
        by_cases hv : s < sums.getD n.toNat 0 + x.f1
        · rw [if_pos hv]
          refine (fits_over s xs ns _ (B + 12) (fun y hy => hc y (List.mem_cons_of_mem _ hy)) hb' (by omega) ⟨n.toNat, by omega, ?_⟩).symm
          rw [getD_set _ (by rw [hb.1]; omega), if_pos rfl]
          exact hv
        · rw [if_neg hv]
          refine ih ns _ (B + 12) (fun y hy => hc y (List.mem_cons_of_mem _ hy)) hb' (by omega) (fun i hi => ?_)
          rw [getD_set _ (by rw [hb.1]; omega)]
          split
          · omega
          · exact hs i hi
      · rw [if_neg hn]
        by_cases h0 : n < 0
        · rw [if_pos h0]; rfl
        · rw [if_neg h0, if_pos (by omega)]; rfl

theorem right_is (s : Int) (l : List S90) (t : List Int) (h : codeC s l = 0) : impl_areTrips.f s l t = spec_l05Right.f s l t := by
  obtain ⟨h6, hs, hc⟩ := codeC_ok h
  unfold impl_areTrips.f spec_l05Right.f
  split
  · have := tripsGo_is s l t [0, 0, 0, 0, 0, 0] 0 hc ⟨rfl, fun i hi => by
      match i, hi with
      | 0, _ => decide
      | 1, _ => decide
      | 2, _ => decide
      | 3, _ => decide
      | 4, _ => decide
      | 5, _ => decide⟩ (by omega) (fun i hi => by
      have : [(0 : Int), 0, 0, 0, 0, 0].getD i 0 = 0 := by
        match i, hi with
        | 0, _ => rfl
        | 1, _ => rfl
        | 2, _ => rfl
        | 3, _ => rfl
        | 4, _ => rfl
        | 5, _ => rfl
      omega)
    rw [this]
    rfl
  · rfl

theorem markCrewS_l0 : ∀ (n p k : Nat) (l : List S90) (a : Int), l.length ≤ 93824992236885 → l.length = p + n → n < k → 1 ≤ a → a ≤ 1 + 3 * p →
    ∃ ys : List S90, laws_markCrewS.l0 k l a (p : Int) = some (a + 3 * n, ys)
  | 0, p, k, l, a, hl, hn, hk, h0, h1 => by
    obtain ⟨k, rfl⟩ : ∃ m, k = m + 1 := ⟨k - 1, by omega⟩
    refine ⟨l, ?_⟩
    simp only [laws_markCrewS.l0]
    rw [if_neg (by omega)]
    simp
  | n + 1, p, k, l, a, hl, hn, hk, h0, h1 => by
    obtain ⟨k, rfl⟩ : ∃ m, k = m + 1 := ⟨k - 1, by omega⟩
    simp only [laws_markCrewS.l0]
    rw [if_pos (by omega), if_pos (by omega)]
    rw [w64_id (a := a + 1) (by omega), w64_id (a := a + 1 + 1) (by omega), w64_id (a := a + 1 + 1 + 1) (by omega), step64 (show p < l.length by omega) (by omega)]
    have key : ∀ Y : List S90, Y.length = l.length → ∃ ys, laws_markCrewS.l0 k Y (a + 1 + 1 + 1) ((p + 1 : Nat) : Int) = some (a + 3 * ((n + 1 : Nat) : Int), ys) := by
      intro Y hY
      obtain ⟨ys, e⟩ := markCrewS_l0 n (p + 1) k Y (a + 1 + 1 + 1) (by omega) (by omega) (by omega) (by omega) (by omega)
      refine ⟨ys, ?_⟩
      rw [e]
      simp only [Option.some.injEq, Prod.mk.injEq, and_true]
      omega
    exact key _ (by simp)

theorem markCrewS_is (l : List S90) (hl : l.length ≤ 93824992236885) (k : Nat) (hk : l.length < k) : ∃ ys, laws_markCrewS.f k l 1 = some (1 + 3 * (l.length : Int), ys) := by
  unfold laws_markCrewS.f
  exact markCrewS_l0 l.length 0 k l 1 hl (by simp) hk (by omega) (by omega)

/-! The law's harness over a result that is a list of whole numbers. -/
theorem eqInt64S_l0 (l : List Int) (hl : l.length ≤ 1152921504606846976) : ∀ (rest : List Int) (p k : Nat), l.drop p = rest → rest.length < k → laws_eqInt64S.l0 k l l (p : Int) = some true := by
  intro rest
  induction rest with
  | nil =>
    intro p k hd hk
    obtain ⟨k, rfl⟩ : ∃ m, k = m + 1 := ⟨k - 1, by simp at hk; omega⟩
    have := of_drop_nil hd
    simp only [laws_eqInt64S.l0]
    rw [if_neg (by omega)]
  | cons x rest ih =>
    intro p k hd hk
    simp only [List.length_cons] at hk
    obtain ⟨k, rfl⟩ : ∃ m, k = m + 1 := ⟨k - 1, by omega⟩
    obtain ⟨hp, hd', hx⟩ := of_drop hd
    simp only [laws_eqInt64S.l0, if_true]
    rw [if_pos (by omega), if_pos (by omega), if_pos (by omega), step64 hp hl]
    exact ih (p + 1) k hd' (by omega)

theorem eqInt64S_is (l : List Int) (hl : l.length ≤ 1152921504606846976) (k : Nat) (hk : l.length < k) : laws_eqInt64S.f k l l = some true := by
  unfold laws_eqInt64S.f
  rw [if_pos rfl]
  exact eqInt64S_l0 l hl l 0 k rfl hk

/-- 1, 2, 3, .. in place of every number. -/
def marks : Int → Nat → List Int
  | _, 0 => []
  | a, n + 1 => a :: marks (a + 1) n

theorem marks_length : ∀ (n : Nat) (a : Int), (marks a n).length = n
  | 0, _ => rfl
  | n + 1, a => by simp [marks, marks_length n]

theorem markInt64S_l0 : ∀ (n p k : Nat) (l : List Int) (a : Int), l.length ≤ 1152921504606846976 → l.length = p + n → n < k → 0 ≤ a → a ≤ 2305843009213693952 + p →
    laws_markInt64S.l0 k l a (p : Int) = some (a + n, l.take p ++ marks a n)
  | 0, p, k, l, a, hl, hn, hk, h0, h1 => by
    obtain ⟨k, rfl⟩ : ∃ m, k = m + 1 := ⟨k - 1, by omega⟩
    simp only [laws_markInt64S.l0, marks]
    rw [if_neg (by omega), List.take_of_length_le (by omega)]
    simp
  | n + 1, p, k, l, a, hl, hn, hk, h0, h1 => by
    obtain ⟨k, rfl⟩ : ∃ m, k = m + 1 := ⟨k - 1, by omega⟩
    simp only [laws_markInt64S.l0]
    rw [if_pos (by omega), if_pos (by omega), w64_id (by omega), step64 (show p < l.length by omega) hl, Int.toNat_natCast,
      markInt64S_l0 n (p + 1) k (l.set p a) (a + 1) (by simpa using hl) (by simp; omega) (by omega) (by omega) (by omega), take_set_at _ _ _ (by omega)]
    simp only [marks, Option.some.injEq, Prod.mk.injEq, List.append_assoc, List.singleton_append, and_true]
    omega

theorem markInt64S_is (l : List Int) (hl : l.length ≤ 1152921504606846976) (k : Nat) (hk : l.length < k) : laws_markInt64S.f k l 1 = some (1 + (l.length : Int), marks 1 l.length) := by
  unfold laws_markInt64S.f
  exact (markInt64S_l0 l.length 0 k l 1 hl (by simp) hk (by omega) (by omega)).trans (by rw [List.take_zero, List.nil_append])

theorem heldInt64S_l0 (l : List Int) (hl : l.length ≤ 1152921504606846976) : ∀ (n p k : Nat) (a : Int), l.length = p + n → l.drop p = marks a n → n < k → 0 ≤ a → a ≤ 2305843009213693952 + p →
    laws_heldInt64S.l0 k l a (p : Int) = some (a + n)
  | 0, p, k, a, hn, hd, hk, h0, h1 => by
    obtain ⟨k, rfl⟩ : ∃ m, k = m + 1 := ⟨k - 1, by omega⟩
    simp only [laws_heldInt64S.l0]
    rw [if_neg (by omega)]
    simp
  | n + 1, p, k, a, hn, hd, hk, h0, h1 => by
    obtain ⟨k, rfl⟩ : ∃ m, k = m + 1 := ⟨k - 1, by omega⟩
    obtain ⟨hp, hd', hx⟩ := of_drop hd
    simp only [laws_heldInt64S.l0, rd, hx, if_true]
    rw [if_pos (by omega), if_pos (by omega), w64_id (by omega), step64 hp hl, heldInt64S_l0 l hl n (p + 1) k (a + 1) (by omega) hd' (by omega) (by omega) (by omega)]
    simp only [Option.some.injEq]
    omega

theorem heldInt64S_is (n : Nat) (hl : n ≤ 1152921504606846976) (k : Nat) (hk : n < k) : laws_heldInt64S.f k (marks 1 n) 1 = some (1 + (n : Int)) := by
  unfold laws_heldInt64S.f
  exact heldInt64S_l0 (marks 1 n) (by rw [marks_length]; exact hl) n 0 k 1 (by rw [marks_length]; simp) rfl hk (by omega) (by omega)

/-- The law, in plain Lean. -/
def FnExactFewestTrips.Said : Prop := ∀ (a0 : Int) (l1 : List S94), (Lit.int .i64 a0).wf = true → l1.length ≤ maxLen → l1.length * 3 ≤ 140737488351232 → (∀ x ∈ l1, (Lit.int .i8 x.f0.f0).wf = true ∧ (Lit.int .i8 x.f0.f1).wf = true ∧ (Lit.int .i8 x.f1).wf = true) → ∃ k, laws_FnExactFewestTrips.f k a0 l1 = some true

def zeros : List Int := [0, 0, 0, 0, 0, 0]
theorem zeros_bd : Bd zeros 0 := ⟨rfl, fun i hi => by
  have : zeros.getD i 0 = 0 := by
    match i, hi with
    | 0, _ => rfl
    | 1, _ => rfl
    | 2, _ => rfl
    | 3, _ => rfl
    | 4, _ => rfl
    | 5, _ => rfl
  omega⟩
theorem rightP_is (s : Int) (l : List S90) (o : List Int) (h : o.length ≤ l.length) : rightP s l o = fits s (rightGo (l.take o.length) o zeros) := by
  unfold rightP spec_l05Right.f
  rw [if_pos (by rw [List.length_take]; omega)]
  rfl
theorem areT_is (s : Int) (l : List S90) (o : List Int) (hc : codeC s l = 0) (h : o.length = l.length) : areT s l o = rightP s l o := by
  have h1 := right_is s l o hc
  have h2 : impl_areTrips.f s l o = some (areT s l o) := rfl
  rw [h2] at h1
  unfold rightP
  rw [h, List.take_length, ← h1]
  rfl
/-- One crew more. -/
theorem rightGo_snoc : ∀ (a : List S90) (na sums : List Int) (x : S90) (n : Int), a.length = na.length → rightGo (a ++ [x]) (na ++ [n]) sums = (rightGo a na sums).bind fun t => rightGo [x] [n] t
  | [], [], _, _, _, _ => rfl
  | y :: a, m :: na, sums, x, n, h => by
    rw [List.cons_append, List.cons_append, rightGo, rightGo]
    by_cases hm : 0 ≤ m ∧ m ≤ 5
    · rw [if_pos hm, if_pos hm, rightGo_snoc a na _ x n (by simpa using h)]
    · rw [if_neg hm, if_neg hm]; rfl
theorem rightGo_bd : ∀ (a : List S90) (na sums t : List Int) (B : Int), (∀ x ∈ a, cnt x = true) → Bd sums B → B + 12 * a.length ≤ 1000000 → rightGo a na sums = some t → Bd t (B + 12 * a.length)
  | [], na, sums, t, B, _, hb, _, h => by
    have : rightGo ([] : List S90) na sums = some sums := by cases na <;> rfl
    rw [this] at h
    obtain rfl := Option.some.inj h
    simpa using hb
  | x :: a, [], sums, t, B, _, hb, hB, h => by
    simp only [rightGo] at h
    obtain rfl := Option.some.inj h
    refine ⟨hb.1, fun i hi => ?_⟩
    have := hb.2 i hi
    simp only [List.length_cons]
    omega
  | x :: a, n :: na, sums, t, B, hc, hb, hB, h => by
    simp only [rightGo] at h
    by_cases hn : 0 ≤ n ∧ n ≤ 5
    · rw [if_pos hn] at h
      have hx := cnt_in (hc x List.mem_cons_self)
      have hb' := hb.set (n := n.toNat) (by omega) hx.1 hx.2
      have hbn := hb.2 n.toNat (by omega)
      simp only [List.length_cons] at hB
      rw [w64_id (a := x.f1) (by omega), rd, w64_id (by omega)] at h
      have := rightGo_bd a na _ t (B + 12) (fun y hy => hc y (List.mem_cons_of_mem _ hy)) hb' (by omega) h
      simp only [List.length_cons]
      rw [show B + 12 * ((a.length + 1 : Nat) : Int) = B + 12 + 12 * a.length by omega]
      exact this
    · rw [if_neg hn] at h; cases h
theorem take_snoc {α : Type} {l : List α} {n : Nat} (h : n < l.length) : l.take (n + 1) = l.take n ++ [l[n]] := List.take_succ_eq_append_getElem h
/-- A right parting begins with right ones. -/
theorem rightP_snoc (s : Int) (l : List S90) (o : List Int) (n : Int) (hc : ∀ x ∈ l, cnt x = true) (h6 : l.length ≤ 6) (h : o.length < l.length) (hr : rightP s l (o ++ [n]) = true) : rightP s l o = true := by
  rw [rightP_is s l _ (by simp; omega)] at hr
  rw [rightP_is s l o (by omega)]
  rw [List.length_append, List.length_singleton, take_snoc h, rightGo_snoc _ _ _ _ _ (by rw [List.length_take]; omega)] at hr
  have hct : ∀ x ∈ l.take o.length, cnt x = true := fun x hx => hc x (List.mem_of_mem_take hx)
  cases hg : rightGo (l.take o.length) o zeros with
  | none => rw [hg] at hr; exact hr
  | some t =>
    rw [hg] at hr
    have hb := rightGo_bd _ _ _ t 0 hct zeros_bd (by rw [List.length_take]; omega) hg
    cases hf : fits s (some t) with
    | true => rfl
    | false =>
      have : ∃ i : Nat, i < 6 ∧ s < t.getD i 0 := by
        simp only [fits] at hf
        rw [List.all_eq_false] at hf
        obtain ⟨y, hy, he⟩ := hf
        obtain ⟨i, hi, e⟩ := List.getElem_of_mem hy
        refine ⟨i, by rw [hb.1] at hi; exact hi, ?_⟩
        rw [List.getD_eq_getElem?_getD, List.getElem?_eq_getElem hi]
        simp only [decide_eq_true_eq] at he
        show s < t[i]
        rw [e]
        omega
      have hz := fits_over s [l[o.length]] [n] t _ (fun x hx => by rw [List.mem_singleton.1 hx]; exact hc _ (List.getElem_mem h)) hb (by rw [List.length_take]; simp; omega) this
      have hr' : fits s (rightGo [l[o.length]] [n] t) = true := hr
      rw [hz] at hr'
      cases hr'
theorem parts_facts : ∀ (d : Nat) (now : List Int) (many : Nat), ∀ q ∈ parts d now many, q.1.length = now.length + d ∧ 0 ≤ q.2
  | 0, now, many, q, hq => by
    simp only [parts, List.mem_singleton] at hq
    rw [hq]
    exact ⟨rfl, Int.natCast_nonneg _⟩
  | d + 1, now, many, q, hq => by
    simp only [parts, List.mem_flatMap, List.mem_range] at hq
    obtain ⟨k, hk, hq⟩ := hq
    have := parts_facts d (now ++ [(k : Int)]) (max many (k + 1)) q hq
    rw [List.length_append, List.length_singleton] at this
    exact ⟨by omega, this.2⟩
theorem parts_right (s : Int) (l : List S90) (hc : ∀ x ∈ l, cnt x = true) (h6 : l.length ≤ 6) : ∀ (d : Nat) (now : List Int) (many : Nat), now.length + d = l.length → ∀ q ∈ parts d now many, rightP s l q.1 = true → rightP s l now = true
  | 0, now, many, hn, q, hq, hr => by
    simp only [parts, List.mem_singleton] at hq
    rw [hq] at hr
    exact hr
  | d + 1, now, many, hn, q, hq, hr => by
    simp only [parts, List.mem_flatMap, List.mem_range] at hq
    obtain ⟨k, hk, hq⟩ := hq
    have := parts_right s l hc h6 d (now ++ [(k : Int)]) (max many (k + 1)) (by simp; omega) q hq hr
    exact rightP_snoc s l now k hc h6 (by omega) this
theorem filter_flatMap {α β : Type} (p : β → Bool) (f : α → List β) : ∀ l : List α, (l.flatMap f).filter p = l.flatMap fun a => (f a).filter p
  | [] => rfl
  | a :: l => by rw [List.flatMap_cons, List.filter_append, filter_flatMap p f l, List.flatMap_cons]
theorem partsR_is (s : Int) (l : List S90) (hc : ∀ x ∈ l, cnt x = true) (h6 : l.length ≤ 6) : ∀ (d : Nat) (now : List Int) (many : Nat), now.length + d = l.length → rightP s l now = true → partsR s l d now many = (parts d now many).filter fun q => rightP s l q.1
  | 0, now, many, hn, hr => by
    simp only [partsR, parts, List.filter_cons, hr, if_true, List.filter_nil]
  | d + 1, now, many, hn, hr => by
    simp only [partsR, parts]
    rw [filter_flatMap]
    congr 1
    funext k
    by_cases hk : rightP s l (now ++ [(k : Int)]) = true
    · rw [if_pos hk]
      exact partsR_is s l hc h6 d _ _ (by simp; omega) hk
    · rw [if_neg hk]
      refine (List.filter_eq_nil_iff.2 fun q hq hr' => hk ?_).symm
      exact parts_right s l hc h6 d _ _ (by simp; omega) q hq hr'
/-- The states of both searches. -/
def Same (a : List Int × Int) (b : List Int × Int × Bool) : Prop := (a = ([], -1) ∧ b = ([], 0, false)) ∨ (0 ≤ a.2 ∧ b = (a.1, a.2, true))
theorem run_same (s : Int) (l : List S90) : ∀ (qs : List (List Int × Int)) (a : List Int × Int) (b : List Int × Int × Bool), (∀ q ∈ qs, 0 ≤ q.2) → Same a b → Same (runP (bestSt l s (fun _ m => m)) a qs) (runP fromSt b (qs.filter fun q => areT s l q.1))
  | [], a, b, _, h => h
  | q :: qs, a, b, hq, h => by
    have ih := fun a b => run_same s l qs a b (fun q' h' => hq q' (List.mem_cons_of_mem _ h'))
    have h0 := hq q List.mem_cons_self
    have e : runP (bestSt l s (fun _ m => m)) a (q :: qs) = runP (bestSt l s (fun _ m => m)) (bestSt l s (fun _ m => m) a q.1 q.2) qs := rfl
    rw [e, List.filter_cons]
    by_cases ha : areT s l q.1 = true
    · rw [if_pos ha]
      have e2 : runP fromSt b (q :: qs.filter fun q => areT s l q.1) = runP fromSt (fromSt b q.1 q.2) (qs.filter fun q => areT s l q.1) := rfl
      rw [e2]
      refine ih _ _ ?_
      unfold bestSt fromSt
      rw [if_pos ha]
      rcases h with ⟨rfl, rfl⟩ | ⟨h1, rfl⟩
      · rw [if_pos (.inl (by decide)), if_pos (.inl rfl)]
        exact .inr ⟨h0, rfl⟩
      · by_cases hl : q.2 < a.2
        · rw [if_pos (.inr hl), if_pos (.inr hl)]
          exact .inr ⟨h0, rfl⟩
        · rw [if_neg (by rintro (h | h); omega; exact hl h), if_neg (by simp; omega)]
          exact .inr ⟨h1, rfl⟩
    · rw [if_neg ha]
      unfold bestSt
      rw [if_neg ha]
      exact ih _ _ h
theorem run_found : ∀ (qs : List (List Int × Int)) (b : List Int × Int × Bool), (b.2.2 = true ∨ qs ≠ []) → (runP fromSt b qs).2.2 = true
  | [], b, h => by rcases h with h | h; exact h; exact absurd rfl h
  | q :: qs, b, h => by
    refine run_found qs (fromSt b q.1 q.2) (.inl ?_)
    unfold fromSt
    by_cases hb : b.2.2 = false ∨ q.2 < b.2.1
    · rw [if_pos hb]
    · rw [if_neg hb]
      cases hf : b.2.2
      · exact absurd (.inl hf) hb
      · rfl
theorem run_len (n : Nat) : ∀ (qs : List (List Int × Int)) (b : List Int × Int × Bool), b.1.length ≤ n → (∀ q ∈ qs, q.1.length ≤ n) → (runP fromSt b qs).1.length ≤ n
  | [], b, h, _ => h
  | q :: qs, b, h, hq => by
    refine run_len n qs (fromSt b q.1 q.2) ?_ (fun q' h' => hq q' (List.mem_cons_of_mem _ h'))
    unfold fromSt
    split
    · exact hq q List.mem_cons_self
    · exact h
theorem partsR_len (s : Int) (l : List S90) : ∀ (d : Nat) (now : List Int) (many : Nat), ∀ q ∈ partsR s l d now many, q.1.length = now.length + d
  | 0, now, many, q, hq => by
    simp only [partsR, List.mem_singleton] at hq
    rw [hq]
    rfl
  | d + 1, now, many, q, hq => by
    simp only [partsR, List.mem_flatMap, List.mem_range] at hq
    obtain ⟨k, hk, hq⟩ := hq
    split at hq
    · have := partsR_len s l d (now ++ [(k : Int)]) (max many (k + 1)) q hq
      rw [List.length_append, List.length_singleton] at this
      omega
    · cases hq
/-- Each crew its own trip. -/
theorem partsR_some (s : Int) (hs : 1 ≤ s ∧ s ≤ 12) (l : List S90) (hc : ∀ x ∈ l, cnt x = true) (h6 : l.length ≤ 6) (hf : fitAll s l = true) : ∀ (d : Nat) (now : List Int) (many : Nat) (sums : List Int), now.length + d = l.length → many ≤ now.length → rightGo (l.take now.length) now zeros = some sums → sums.length = 6 → (∀ x ∈ sums, x ≤ s) → (∀ i : Nat, many ≤ i → i < 6 → sums.getD i 0 = 0) → partsR s l d now many ≠ []
  | 0, now, many, sums, hn, hm, hg, h6s, hle, hz => by simp [partsR]
  | d + 1, now, many, sums, hn, hm, hg, h6s, hle, hz => by
    have hlt : now.length < l.length := by omega
    have hx := cnt_in (hc _ (List.getElem_mem hlt))
    have hxs := of_decide_eq_true (List.all_eq_true.1 hf _ (List.getElem_mem hlt))
    rw [w64_id (by omega)] at hxs
    have h0 := hz many (Nat.le_refl _) (by omega)
    have hgn : rightGo (l.take (now ++ [(many : Int)]).length) (now ++ [(many : Int)]) zeros = some (sums.set many (l[now.length].f1)) := by
      rw [List.length_append, List.length_singleton, take_snoc hlt, rightGo_snoc _ _ _ _ _ (by rw [List.length_take]; omega), hg]
      simp only [Option.bind_some, rightGo]
      rw [if_pos (by omega), Int.toNat_natCast, w64_id (a := l[now.length].f1) (by omega), rd, Int.toNat_natCast, h0, w64_id (by omega), Int.zero_add]
    have hlen : (sums.set many (l[now.length].f1)).length = 6 := by simpa using h6s
    have hall : ∀ x ∈ sums.set many (l[now.length].f1), x ≤ s := fun x hx' => by
      rcases List.mem_or_eq_of_mem_set hx' with h | rfl
      · exact hle x h
      · exact hxs
    have hr : rightP s l (now ++ [(many : Int)]) = true := by
      rw [rightP_is s l _ (by simp; omega), hgn]
      simp only [fits]
      exact List.all_eq_true.2 fun x hx' => decide_eq_true (hall x hx')
    have ih := partsR_some s hs l hc h6 hf d (now ++ [(many : Int)]) (max many (many + 1)) _ (by simp; omega) (by simp; omega) hgn hlen hall (fun i h1 h2 => by
      rw [getD_set _ (by omega), if_neg (by omega)]
      exact hz i (by omega) h2)
    intro he
    simp only [partsR] at he
    have := List.flatMap_eq_nil_iff.1 he many (by simp)
    rw [if_pos hr] at this
    exact ih this
theorem over_none (s : Int) : ∀ (xs : List S90) (ns sums : List Int) (B : Int), (∀ x ∈ xs, cnt x = true) → Bd sums B → B + 12 * xs.length ≤ 1000000 → xs.length = ns.length → (∃ x ∈ xs, s < x.f1) → fits s (rightGo xs ns sums) = false
  | [], _, _, _, _, _, _, _, ⟨x, hx, _⟩ => by cases hx
  | x :: xs, [], _, _, _, _, _, hl, _ => by cases hl
  | x :: xs, n :: ns, sums, B, hc, hb, hB, hl, ⟨y, hy, hys⟩ => by
    simp only [rightGo]
    by_cases hn : 0 ≤ n ∧ n ≤ 5
    · have hx := cnt_in (hc x List.mem_cons_self)
      have hb' := hb.set (n := n.toNat) (by omega) hx.1 hx.2
      have hbn := hb.2 n.toNat (by omega)
      simp only [List.length_cons] at hB
      rw [if_pos hn, w64_id (a := x.f1) (by omega), rd, w64_id (by omega)]
      rcases List.mem_cons.1 hy with rfl | hy
      · refine fits_over s xs ns _ (B + 12) (fun z hz => hc z (List.mem_cons_of_mem _ hz)) hb' (by omega) ⟨n.toNat, by omega, ?_⟩
        rw [getD_set _ (by rw [hb.1]; omega), if_pos rfl]
        omega
      · exact over_none s xs ns _ (B + 12) (fun z hz => hc z (List.mem_cons_of_mem _ hz)) hb' (by omega) (by simpa using hl) ⟨y, hy, hys⟩
    · rw [if_neg hn]; rfl

def fewS (s : Int) (l : List S90) : List Int × Int × Bool := runP fromSt ([], 0, false) (partsR s l l.length [] 0)
def fewR (s : Int) (l : List S90) : List Int × Int × Int := if codeC s l = 0 then (if fitAll s l = true then ((fewS s l).1, (fewS s l).2.1, 0) else ([], 0, 6)) else ([], 0, codeC s l)
theorem fewR_len (s : Int) (l : List S90) : (fewR s l).1.length ≤ l.length := by
  unfold fewR
  split
  · split
    · refine run_len l.length _ _ (Nat.zero_le _) (fun q hq => ?_)
      have := partsR_len s l l.length [] 0 q hq
      simp only [List.length_nil] at this
      omega
    · exact Nat.zero_le _
  · exact Nat.zero_le _
theorem right_nil (s : Int) (hs : 1 ≤ s) (l : List S90) : rightP s l [] = true := by
  rw [rightP_is s l [] (Nat.zero_le _)]
  simp only [List.length_nil, List.take_zero, rightGo, fits, zeros]
  simp; omega
theorem best_same (s : Int) (l : List S90) (hc : codeC s l = 0) : Same (bestRun l s (fun _ m => m)) (fewS s l) := by
  obtain ⟨h6, hs, hcn⟩ := codeC_ok hc
  have h := run_same s l (parts l.length [] 0) ([], -1) ([], 0, false) (fun q hq => (parts_facts _ _ _ q hq).2) (.inl ⟨rfl, rfl⟩)
  have e : (parts l.length [] 0).filter (fun q => areT s l q.1) = partsR s l l.length [] 0 := by
    rw [partsR_is s l hcn h6 l.length [] 0 (by simp) (right_nil s hs.1 l)]
    refine List.filter_congr fun q hq => ?_
    exact areT_is s l q.1 hc (by have := (parts_facts _ _ _ q hq).1; simpa using this)
  rw [e] at h
  exact h
theorem implFewestTrips_is (s : Int) (l : List S90) (hl : l.length ≤ 1048576) : impl_FewestTrips.f s l = some (fewR s l) := by
  unfold impl_FewestTrips.f fewR
  rw [seatsCode_is s l (by omega) _ (by omega)]
  simp only [Option.bind_some]
  by_cases hc : codeC s l = 0
  · rw [if_pos hc, if_pos hc]
    obtain ⟨h6, hs, hcn⟩ := codeC_ok hc
    rw [if_pos (by omega)]
    have h := best_same s l hc
    by_cases hf : fitAll s l = true
    · rw [if_pos hf]
      have hfd : (fewS s l).2.2 = true := run_found _ _ (.inr (partsR_some s hs l hcn h6 hf l.length [] 0 zeros (by simp) (Nat.le_refl _) rfl rfl (fun x hx => by
        have : x = 0 := by simpa [zeros] using hx
        omega) (fun i _ hi => by
        have := zeros_bd.2 i hi
        omega)))
      rcases h with ⟨_, h2⟩ | ⟨h1, h2⟩
      · rw [h2] at hfd
        exact absurd hfd (by simp)
      · rw [if_pos h1, h2]
    · rw [if_neg hf]
      have hn : partsR s l l.length [] 0 = [] := by
        rw [partsR_is s l hcn h6 l.length [] 0 (by simp) (right_nil s hs.1 l)]
        refine List.filter_eq_nil_iff.2 fun q hq hr => ?_
        have hq1 : q.1.length = l.length := by have := (parts_facts _ _ _ q hq).1; simpa using this
        rw [rightP_is s l q.1 (by omega), hq1, List.take_length] at hr
        have hex : ∃ x ∈ l, s < x.f1 := by
          have hf' : fitAll s l = false := by simpa using hf
          unfold fitAll at hf'
          rw [List.all_eq_false] at hf'
          obtain ⟨x, hx, he⟩ := hf'
          have := cnt_in (hcn x hx)
          rw [w64_id (by omega)] at he
          simp only [decide_eq_true_eq] at he
          exact ⟨x, hx, by omega⟩
        have := over_none s l q.1 zeros 0 hcn zeros_bd (by omega) hq1.symm hex
        rw [this] at hr
        cases hr
      have he : fewS s l = ([], 0, false) := by unfold fewS; rw [hn]; rfl
      rcases h with ⟨h1, _⟩ | ⟨_, h2⟩
      · rw [h1, if_neg (by decide)]
      · rw [he] at h2
        exact absurd (congrArg (fun z => z.2.2) h2) (by simp)
  · rw [if_neg hc, if_neg hc]
theorem specFewestTrips_is (s : Int) (l : List S90) (hl : l.length ≤ 1048576) (h8 : ∀ x ∈ l, In8C x) : spec_FewestTrips.f s l = some (fewR s l) := by
  unfold spec_FewestTrips.f fewR
  rw [l05Seated_is s l (by omega) h8 _ (by omega)]
  simp only [Option.bind_some]
  by_cases hc : codeC s l = 0
  · rw [if_pos hc, if_pos hc, most_is s l (by omega) _ (by omega)]
    simp only [Option.bind_some]
    have := (codeC_ok hc).1
    by_cases hf : fitAll s l = true
    · rw [if_pos hf, if_pos hf, if_pos (by omega)]
      rfl
    · rw [if_neg hf, if_neg hf]
  · rw [if_neg hc, if_neg hc]

theorem FnExactFewestTrips : FnExactFewestTrips.Said := by
  intro s l hs0 hm hy hok
  have hl : l.length ≤ 93824992236885 := by omega
  have h8 := cvC_in hok
  have hlm : (l.map cvC).length = l.length := List.length_map ..
  obtain ⟨K, hK⟩ : ∃ K, K = l.length + 100 := ⟨_, rfl⟩
  refine ⟨K + 3, ?_⟩
  unfold laws_FnExactFewestTrips.f
  rw [szCrewS_is l _ hl (by omega) (by omega)]
  simp only [Option.bind_some]
  by_cases big : (1048576 : Int) < l.length
  · rw [if_pos big]; rfl
  · rw [if_neg big, if_neg (by omega), toCrewS_is l hl _ (by omega)]
    simp only [Option.bind_some]
    have hr := fewR_len s (l.map cvC)
    generalize hR : fewR s (l.map cvC) = R at hr
    rw [specFewestTrips_is s _ (by omega) h8, implFewestTrips_is s _ (by omega), hR]
    simp only [Option.bind_some]
    rw [eqInt64S_is _ (by omega) _ (by omega)]
    simp only [Option.bind_some, if_true, bne_self_eq_false, laws_FnExactFewestTrips.j0, Bool.false_eq_true, if_false]
    rw [toCrewS_is l hl _ (by omega)]
    simp only [Option.bind_some]
    rw [eqCrewS_is _ (by omega) _ (by omega)]
    simp only [Option.bind_some, if_true]
    obtain ⟨ys, e⟩ := markCrewS_is (l.map cvC) (by omega) (K + 2) (by omega)
    rw [e]
    simp only [Option.bind_some]
    rw [if_neg (by omega), eqInt64S_is _ (by omega) _ (by omega)]
    simp only [Option.bind_some, if_true, laws_FnExactFewestTrips.j1, Bool.false_eq_true, if_false]
    rw [markInt64S_is _ (by omega) _ (by omega)]
    simp only [Option.bind_some]
    rw [heldInt64S_is _ (by omega) _ (by omega)]
    simp only [Option.bind_some, if_true]
    rw [if_neg (by omega), toCrewS_is l hl _ (by omega)]
    simp only [Option.bind_some]
    rw [implFewestTrips_is s _ (by omega), hR]
    simp only [Option.bind_some]
    rw [eqInt64S_is _ (by omega) _ (by omega)]
    simp only [Option.bind_some, if_true, bne_self_eq_false, laws_FnExactFewestTrips.j2, Bool.false_eq_true, if_false]
    rw [heldInt64S_is _ (by omega) _ (by omega)]
    simp only [Option.bind_some, if_true]
    rw [if_neg (by omega)]

end Go.Proofs.Ytpimdgkofgendaa.Pure
