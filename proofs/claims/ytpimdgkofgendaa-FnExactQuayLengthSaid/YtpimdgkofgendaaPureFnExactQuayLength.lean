/- The program's QuayLength returns what the reference's QuayLength returns, for all hulls and all numbers of rafts (lists of at most 2^20; longer ones the law lets by). -/
import Derived.Test.YtpimdgkofgendaaPFnExactQuayLengthx4
namespace Go.Proofs.Ytpimdgkofgendaa.Pure
open Go.RowKit Go.Proofs.Ytpimdgkofgendaa.PFnExactQuayLength Go.Proofs.YtpimdgkofgendaaW.PrintWords Go.Proofs.YtpimdgkofgendaaW.PrintLast Go.Proofs.YtpimdgkofgendaaW.PrintMore
set_option linter.unusedVariables false
set_option linter.unusedSimpArgs false

def cvH (x : S65) : S59 := ⟨x.f0, x.f1, x.f2⟩

theorem toHullS_l0 (l : List S65) (hl : l.length ≤ 1152921504606846976) : ∀ (rest : List S65) (p k : Nat) (ys : List S59), l.drop p = rest → ys.length = l.length → rest.length < k →
    laws_toHullS.l0 k l ys (p : Int) = some (ys.take p ++ rest.map cvH) := by
  intro rest
  induction rest with
  | nil =>
    intro p k ys hd hy hk
    obtain ⟨k, rfl⟩ : ∃ m, k = m + 1 := ⟨k - 1, by simp at hk; omega⟩
    have := of_drop_nil hd
    simp only [laws_toHullS.l0]
    rw [if_neg (by omega), List.take_of_length_le (by omega)]
    simp
  | cons x rest ih =>
    intro p k ys hd hy hk
    simp only [List.length_cons] at hk
    obtain ⟨k, rfl⟩ : ∃ m, k = m + 1 := ⟨k - 1, by omega⟩
    obtain ⟨hp, hd', hx⟩ := of_drop hd
    simp only [laws_toHullS.l0, laws_toHull.f, rd_T65, hx, Option.bind_some]
    rw [if_pos (by omega), if_pos (by omega), if_pos (by omega), step64 hp hl, ih (p + 1) k _ hd' (by simpa using hy) (by omega), Int.toNat_natCast, take_set_at _ _ _ (by omega)]
    simp [cvH]

theorem toHullS_is (l : List S65) (hl : l.length ≤ 93824992236885) (k : Nat) (hk : l.length < k) : laws_toHullS.f k l = some (l.map cvH) := by
  unfold laws_toHullS.f
  rw [if_pos (by omega), if_pos (by omega)]
  have := toHullS_l0 l (by omega) l 0 k (List.replicate (l.length : Int).toNat z59) rfl (by simp) hk
  simpa using this

theorem cvH_in {l : List S65} (h : ∀ x ∈ l, (Lit.int .i8 x.f0).wf = true ∧ (Lit.int .i8 x.f1).wf = true ∧ (Lit.int .i8 x.f2).wf = true) : ∀ x ∈ l.map cvH, In8 x := by
  intro x hx
  obtain ⟨y, hy, rfl⟩ := List.mem_map.1 hx
  exact ⟨i8_in (h y hy).1, i8_in (h y hy).2.1, i8_in (h y hy).2.2⟩

theorem eqHullS_l0 (l : List S59) (hl : l.length ≤ 1152921504606846976) : ∀ (rest : List S59) (p k : Nat), l.drop p = rest → rest.length < k → laws_eqHullS.l0 k l l (p : Int) = some true := by
  intro rest
  induction rest with
  | nil =>
    intro p k hd hk
    obtain ⟨k, rfl⟩ : ∃ m, k = m + 1 := ⟨k - 1, by simp at hk; omega⟩
    have := of_drop_nil hd
    simp only [laws_eqHullS.l0]
    rw [if_neg (by omega)]
  | cons x rest ih =>
    intro p k hd hk
    simp only [List.length_cons] at hk
    obtain ⟨k, rfl⟩ : ∃ m, k = m + 1 := ⟨k - 1, by omega⟩
    obtain ⟨hp, hd', hx⟩ := of_drop hd
    simp only [laws_eqHullS.l0, laws_eqHull.f, if_true, Option.bind_some]
    rw [if_pos (by omega), if_pos (by omega), if_pos (by omega), step64 hp hl]
    exact ih (p + 1) k hd' (by omega)

theorem eqHullS_is (l : List S59) (hl : l.length ≤ 1152921504606846976) (k : Nat) (hk : l.length < k) : laws_eqHullS.f k l l = some true := by
  unfold laws_eqHullS.f
  rw [if_pos rfl]
  exact eqHullS_l0 l hl l 0 k rfl hk

theorem szHullS_is (l : List S65) (a : Int) (hl : l.length ≤ 93824992236885) (h0 : 0 ≤ a) (h1 : a ≤ 1048576) : laws_szHullS.f l a = some (if a < l.length then -1 else a - l.length) := by
  unfold laws_szHullS.f
  rw [w64_id (by omega)]
  by_cases h : a < l.length
  · rw [if_pos (by omega), if_pos h]
  · rw [if_neg (by omega), if_neg h]

theorem implValid_is (a b c : Int) : impl_ValidHull.f a b c = some (vh ⟨a, b, c⟩) := by
  unfold impl_ValidHull.f
  show _ = some (decide (1 ≤ a ∧ a ≤ 40 ∧ 1 ≤ b ∧ b ≤ 100 ∧ 1 ≤ c ∧ c ≤ 20))
  repeat' split
  all_goals first | exact some_dec (by omega) | exact some_decF (by omega)

def codeH (l : List S59) : Int := if l.all vh then (if l.length > 7 then 3 else 0) else 1

theorem hullsCode_l0 (l : List S59) (hl : l.length ≤ 1152921504606846976) : ∀ (rest : List S59) (p k : Nat), l.drop p = rest → rest.length < k →
    impl_hullsCode.l0 k l l (l.length : Int) (p : Int) = some (if rest.all vh then (if l.length > 7 then 3 else 0) else 1) := by
  intro rest
  induction rest with
  | nil =>
    intro p k hd hk
    obtain ⟨k, rfl⟩ : ∃ m, k = m + 1 := ⟨k - 1, by simp at hk; omega⟩
    have := of_drop_nil hd
    simp only [impl_hullsCode.l0]
    rw [if_neg (by omega)]
    by_cases h : l.length > 7
    · rw [if_pos (by omega)]; simp [h]
    · rw [if_neg (by omega)]; simp [h]
  | cons x rest ih =>
    intro p k hd hk
    simp only [List.length_cons] at hk
    obtain ⟨k, rfl⟩ : ∃ m, k = m + 1 := ⟨k - 1, by omega⟩
    obtain ⟨hp, hd', hx⟩ := of_drop hd
    simp only [impl_hullsCode.l0, rd_T59, hx, implValid_is, Option.bind_some]
    rw [if_pos (by omega), if_pos (by omega), if_pos (by omega), step64 hp hl, ih (p + 1) k hd' (by omega)]
    cases hv : vh x <;> simp [hv]

theorem hullsCode_is (l : List S59) (hl : l.length ≤ 1152921504606846976) (k : Nat) (hk : l.length < k) : impl_hullsCode.f k l = some (codeH l) := by
  unfold impl_hullsCode.f codeH
  exact hullsCode_l0 l hl l 0 k rfl hk

theorem codeH_ok {l : List S59} (h : codeH l = 0) : l.length ≤ 7 ∧ ∀ x ∈ l, vh x = true := by
  unfold codeH at h
  split at h
  · rename_i ha
    split at h
    · cases h
    · exact ⟨by omega, by simpa using ha⟩
  · cases h

theorem l00In_is (a lo hi : Int) : spec_l00In.f a lo hi = some (decide (lo ≤ a ∧ a ≤ hi)) := by
  unfold spec_l00In.f
  repeat' split
  all_goals first | exact some_dec (by omega) | exact some_decF (by omega)

theorem vh_and (x : S59) : vh x = (decide (1 ≤ x.f0 ∧ x.f0 ≤ 40) && (decide (1 ≤ x.f1 ∧ x.f1 ≤ 100) && decide (1 ≤ x.f2 ∧ x.f2 ≤ 20))) := by
  unfold vh
  rw [← Bool.decide_and, ← Bool.decide_and]
  exact decide_eq_decide.2 (by omega)

theorem specValid_is (a b c : Int) (h : In8 ⟨a, b, c⟩) : spec_l04Hull.f a b c = some (vh ⟨a, b, c⟩) := by
  obtain ⟨h0, h1, h2⟩ := h
  simp only at h0 h1 h2
  unfold spec_l04Hull.f
  rw [w64_id (by omega), w64_id (by omega), w64_id (by omega), l00In_is, l00In_is, l00In_is, vh_and]
  simp only [Option.bind_some]
  cases decide (1 ≤ a ∧ a ≤ 40) <;> cases decide (1 ≤ b ∧ b ≤ 100) <;> rfl

theorem l04Asked_l0 (l : List S59) (hl : l.length ≤ 1152921504606846976) (h8 : ∀ x ∈ l, In8 x) : ∀ (rest : List S59) (p k : Nat), l.drop p = rest → rest.length < k →
    spec_l04Asked.l0 k l (p : Int) = some (if rest.all vh then (if l.length > 7 then 3 else 0) else 1) := by
  intro rest
  induction rest with
  | nil =>
    intro p k hd hk
    obtain ⟨k, rfl⟩ : ∃ m, k = m + 1 := ⟨k - 1, by simp at hk; omega⟩
    have := of_drop_nil hd
    simp only [spec_l04Asked.l0]
    rw [if_neg (by omega)]
    by_cases h : l.length > 7
    · rw [if_pos (by omega)]; simp [h]
    · rw [if_neg (by omega)]; simp [h]
  | cons x rest ih =>
    intro p k hd hk
    simp only [List.length_cons] at hk
    obtain ⟨k, rfl⟩ : ∃ m, k = m + 1 := ⟨k - 1, by omega⟩
    obtain ⟨hp, hd', hx⟩ := of_drop hd
    have hx8 : In8 x := h8 x (List.mem_of_mem_drop (by rw [hd]; exact List.mem_cons_self))
    simp only [spec_l04Asked.l0, rd_T59, hx, specValid_is _ _ _ hx8, Option.bind_some]
    rw [if_pos (by omega), if_pos (by omega), step64 hp hl, ih (p + 1) k hd' (by omega)]
    cases hv : vh x <;> simp [hv]

theorem l04Asked_is (l : List S59) (hl : l.length ≤ 1152921504606846976) (h8 : ∀ x ∈ l, In8 x) (k : Nat) (hk : l.length < k) : spec_l04Asked.f k l = some (codeH l) := by
  unfold spec_l04Asked.f codeH
  exact l04Asked_l0 l hl h8 l 0 k rfl hk

/-- Numbers of rafts as they may be told. -/
def toldR (n : Nat) (r : List Int) : Bool := decide (r.length = n) && r.all (fun x => decide (0 ≤ x ∧ x < 7))
theorem areNumbers_l0 (r : List Int) (hr : r.length ≤ 1152921504606846976) : ∀ (rest : List Int) (p k : Nat), r.drop p = rest → rest.length < k → impl_areNumbers.l0 k r (r.length : Int) (p : Int) = some (rest.all (fun x => decide (0 ≤ x ∧ x < 7))) := by
  intro rest
  induction rest with
  | nil =>
    intro p k hd hk
    obtain ⟨k, rfl⟩ : ∃ m, k = m + 1 := ⟨k - 1, by simp at hk; omega⟩
    have := of_drop_nil hd
    simp only [impl_areNumbers.l0]
    rw [if_neg (by omega)]
    rfl
  | cons x rest ih =>
    intro p k hd hk
    simp only [List.length_cons] at hk
    obtain ⟨k, rfl⟩ : ∃ m, k = m + 1 := ⟨k - 1, by omega⟩
    obtain ⟨hp, hd', hx⟩ := of_drop hd
    simp only [impl_areNumbers.l0, rd, hx, List.all_cons]
    rw [if_pos (by omega), if_pos (by omega), if_pos (by omega), step64 hp hr, ih (p + 1) k hd' (by omega)]
    by_cases h0 : x < 0
    · rw [if_pos h0, decide_eq_false (by omega)]; rfl
    · rw [if_neg h0]
      by_cases h7 : x ≥ 7
      · rw [if_pos h7, decide_eq_false (by omega)]; rfl
      · rw [if_neg h7, decide_eq_true (by omega)]; rfl
theorem areNumbers_is (l : List S59) (r : List Int) (hl : l.length ≤ 1152921504606846976) (hr : r.length ≤ 1152921504606846976) (k : Nat) (hk : r.length < k) : impl_areNumbers.f k l r = some (toldR l.length r) := by
  unfold impl_areNumbers.f toldR
  by_cases h : r.length = l.length
  · have e := areNumbers_l0 r hr r 0 k rfl hk
    have e' : impl_areNumbers.l0 k r (r.length : Int) 0 = _ := e
    rw [if_pos (by omega), e', decide_eq_true h]; rfl
  · rw [if_neg (by omega), decide_eq_false h]; rfl
theorem told_l0 (l : List S59) (r : List Int) (hl : l.length ≤ 1152921504606846976) (hr : r.length ≤ 1152921504606846976) : ∀ (rest : List Int) (p k : Nat), r.drop p = rest → rest.length < k → spec_l04Told.l0 k l r (p : Int) = some (rest.all (fun x => decide (0 ≤ x ∧ x < 7)) && decide (r.length = l.length)) := by
  intro rest
  induction rest with
  | nil =>
    intro p k hd hk
    obtain ⟨k, rfl⟩ : ∃ m, k = m + 1 := ⟨k - 1, by simp at hk; omega⟩
    have := of_drop_nil hd
    simp only [spec_l04Told.l0]
    rw [if_neg (by omega)]
    simp only [List.all_nil, Bool.true_and, Option.some.injEq]
    by_cases h : r.length = l.length
    · rw [decide_eq_true h]; exact beq_iff_eq.2 (by omega)
    · rw [decide_eq_false h]; exact beq_eq_false_iff_ne.2 (by omega)
  | cons x rest ih =>
    intro p k hd hk
    simp only [List.length_cons] at hk
    obtain ⟨k, rfl⟩ : ∃ m, k = m + 1 := ⟨k - 1, by omega⟩
    obtain ⟨hp, hd', hx⟩ := of_drop hd
    have e : spec_l04Number.f x = some (decide (0 ≤ x ∧ x < 7)) := by
      unfold spec_l04Number.f spec_l00In.f
      repeat' split
      all_goals first | (simp only [Option.bind_some]; first | exact some_decT (by omega) | exact some_decF (by omega) | exact some_dec (by omega)) | exact some_decT (by omega) | exact some_decF (by omega) | exact some_dec (by omega)
    simp only [spec_l04Told.l0, rd, hx, List.all_cons]
    rw [if_pos (by omega), if_pos (by omega), e, step64 hp hr, ih (p + 1) k hd' (by omega)]
    simp only [Option.bind_some]
    cases decide (0 ≤ x ∧ x < 7) <;> simp
theorem told_is (l : List S59) (r : List Int) (hl : l.length ≤ 1152921504606846976) (hr : r.length ≤ 1152921504606846976) (k : Nat) (hk : r.length < k) : spec_l04Told.f k l r = some (toldR l.length r) := by
  unfold spec_l04Told.f toldR
  have e := told_l0 l r hl hr r 0 k rfl hk
  have e' : spec_l04Told.l0 k l r 0 = _ := e
  rw [e', Bool.and_comm]
theorem toldR_ok {n : Nat} {r : List Int} (h : toldR n r = true) : r.length = n ∧ ∀ x ∈ r, 0 ≤ x ∧ x < 7 := by
  unfold toldR at h
  rw [Bool.and_eq_true, decide_eq_true_iff, List.all_eq_true] at h
  exact ⟨h.1, fun x hx => of_decide_eq_true (h.2 x hx)⟩
theorem with_l0 (l : List S59) (r : List Int) (a : Int) (hl : r.length ≤ l.length) (hb : r.length ≤ 1048576) : ∀ (rest : List Int) (p k : Nat), r.drop p = rest → rest.length < k → spec_l04With.l0 k l r a (withH l (r.take p) a) (p : Int) = some (withH l r a) := by
  intro rest
  induction rest with
  | nil =>
    intro p k hd hk
    obtain ⟨k, rfl⟩ : ∃ m, k = m + 1 := ⟨k - 1, by simp at hk; omega⟩
    have := of_drop_nil hd
    simp only [spec_l04With.l0]
    rw [if_neg (by omega), List.take_of_length_le (by omega)]
  | cons x rest ih =>
    intro p k hd hk
    simp only [List.length_cons] at hk
    obtain ⟨k, rfl⟩ : ∃ m, k = m + 1 := ⟨k - 1, by omega⟩
    obtain ⟨hp, hd', hx⟩ := of_drop hd
    have hy : r[p] = x := by
      have := hx 0
      rw [Int.toNat_natCast, List.getD_eq_getElem?_getD, List.getElem?_eq_getElem hp] at this
      exact this
    have hlt : (r.take p).length = p := by rw [List.length_take]; omega
    have hw := withH_length l (r.take p) a
    rw [hlt] at hw
    have hrd : rd_T59 l (p : Int) = l[p] := by rw [rd_T59, Int.toNat_natCast, List.getD_eq_getElem?_getD, List.getElem?_eq_getElem (by omega)]; rfl
    have hs := withH_snoc l (r.take p) x a (by omega)
    have I := ih (p + 1) k hd' (by omega)
    rw [List.take_succ_eq_append_getElem hp, hy, hs] at I
    simp only [hlt] at I
    simp only [spec_l04With.l0, rd, hx, hrd]
    rw [if_pos (by omega), if_pos (by omega), step64 hp (by omega)]
    by_cases e : x = a
    · rw [if_pos e, if_pos (by omega), if_pos (by omega)]
      rw [if_pos e] at I
      exact I
    · rw [if_neg e]
      rw [if_neg e, List.append_nil] at I
      exact I
theorem with_is (l : List S59) (r : List Int) (a : Int) (hl : r.length ≤ l.length) (hb : r.length ≤ 1048576) (k : Nat) (hk : r.length < k) : spec_l04With.f k l r a = some (withH l r a) := by
  unfold spec_l04With.f
  have := with_l0 l r a hl hb r 0 k rfl hk
  simpa [withH] using this

/-! The law's harness over a result that is a list of whole numbers. -/
theorem eqInt64S_l0 (l : List Int) (hl : l.length ≤ 1152921504606846976) : ∀ (rest : List Int) (p k : Nat), l.drop p = rest → rest.length < k → laws_eqInt64S.l0 k l l (p : Int) = some true := by
  intro rest
  induction rest with
  | nil =>
    intro p k hd hk
    obtain ⟨k, rfl⟩ : ∃ m, k = m + 1 := ⟨k - 1, by simp at hk; omega⟩
    have := of_drop_nil hd
    simp only [laws_eqInt64S.l0]
    rw [if_neg (by omega)]
  | cons x rest ih =>
    intro p k hd hk
    simp only [List.length_cons] at hk
    obtain ⟨k, rfl⟩ : ∃ m, k = m + 1 := ⟨k - 1, by omega⟩
    obtain ⟨hp, hd', hx⟩ := of_drop hd
    simp only [laws_eqInt64S.l0, if_true]
    rw [if_pos (by omega), if_pos (by omega), if_pos (by omega), step64 hp hl]
    exact ih (p + 1) k hd' (by omega)

theorem eqInt64S_is (l : List Int) (hl : l.length ≤ 1152921504606846976) (k : Nat) (hk : l.length < k) : laws_eqInt64S.f k l l = some true := by
  unfold laws_eqInt64S.f
  rw [if_pos rfl]
  exact eqInt64S_l0 l hl l 0 k rfl hk

theorem toInt64S_l0 (l : List Int) (hl : l.length ≤ 1152921504606846976) : ∀ (rest : List Int) (p k : Nat) (ys : List Int), l.drop p = rest → ys.length = l.length → rest.length < k →
    laws_toInt64S.l0 k l ys (p : Int) = some (ys.take p ++ rest) := by
  intro rest
  induction rest with
  | nil =>
    intro p k ys hd hy hk
    obtain ⟨k, rfl⟩ : ∃ m, k = m + 1 := ⟨k - 1, by simp at hk; omega⟩
    have := of_drop_nil hd
    simp only [laws_toInt64S.l0]
    rw [if_neg (by omega), List.take_of_length_le (by omega)]
    simp
  | cons x rest ih =>
    intro p k ys hd hy hk
    simp only [List.length_cons] at hk
    obtain ⟨k, rfl⟩ : ∃ m, k = m + 1 := ⟨k - 1, by omega⟩
    obtain ⟨hp, hd', hx⟩ := of_drop hd
    simp only [laws_toInt64S.l0, rd, hx, Option.bind_some]
    rw [if_pos (by omega), if_pos (by omega), if_pos (by omega), step64 hp hl, ih (p + 1) k _ hd' (by simpa using hy) (by omega), Int.toNat_natCast, take_set_at _ _ _ (by omega)]
    simp
theorem toInt64S_is (l : List Int) (hl : l.length * 8 ≤ 140737488351232) (k : Nat) (hk : l.length < k) : laws_toInt64S.f k l = some l := by
  unfold laws_toInt64S.f
  rw [if_pos (by omega), if_pos (by omega)]
  have := toInt64S_l0 l (by omega) l 0 k (List.replicate (l.length : Int).toNat 0) rfl (by simp) hk
  simpa using this

/-- The law, in plain Lean. -/
def FnExactQuayLength.Said : Prop := ∀ (l0 : List S65) (l1 : List Int), l0.length ≤ maxLen → l0.length * 3 ≤ 140737488351232 → (∀ x ∈ l0, (Lit.int .i8 x.f0).wf = true ∧ (Lit.int .i8 x.f1).wf = true ∧ (Lit.int .i8 x.f2).wf = true) → l1.length ≤ maxLen → l1.length * 8 ≤ 140737488351232 → (∀ x ∈ l1, (Lit.int .i64 x).wf = true) → ∃ k, laws_FnExactQuayLength.f k l0 l1 = some true

theorem max_mx (a b : Int) : spec_l00Max.f a b = some (mx a b) := by
  unfold spec_l00Max.f mx
  repeat' split
  all_goals first | rfl | (simp only [Option.some.injEq]; omega)
theorem specQuay_l1 (l : List S59) (r : List Int) (s n : Int) (xs : List S59) (hb : xs.length ≤ 1048576) (hv : ∀ x ∈ xs, vh x = true) (K : Nat) : ∀ (d p k : Nat), p + d = xs.length → d < k → K + d + 1 ≤ k → spec_l04Quay.l1 k l r s n xs (longH (xs.take p)) (p : Int) = spec_l04Quay.l0 (k - d - 1) l r (wrap64 (s + longH xs)) (wrap64 (n + 1)) := by
  intro d
  induction d with
  | zero =>
    intro p k hd hk hK
    obtain ⟨k, rfl⟩ : ∃ m, k = m + 1 := ⟨k - 1, by omega⟩
    simp only [spec_l04Quay.l1]
    rw [if_neg (by omega), List.take_of_length_le (by omega)]
    rfl
  | succ d ih =>
    intro p k hd hk hK
    obtain ⟨k, rfl⟩ : ∃ m, k = m + 1 := ⟨k - 1, by omega⟩
    have hp : p < xs.length := by omega
    have hrd : rd_T59 xs (p : Int) = xs[p] := by rw [rd_T59, Int.toNat_natCast, List.getD_eq_getElem?_getD, List.getElem?_eq_getElem hp]; rfl
    have I := ih (p + 1) k (by omega) (by omega) (by omega)
    rw [List.take_succ_eq_append_getElem hp, longH_snoc] at I
    have h8 := hv xs[p] (List.getElem_mem hp)
    simp only [vh, decide_eq_true_eq] at h8
    simp only [spec_l04Quay.l1, hrd]
    rw [if_pos (by omega), if_pos (by omega), max_mx, step64 hp (by omega), w64_id (a := xs[p].f1) (by omega)]
    simp only [Option.bind_some]
    rw [I]
    congr 1
    omega
theorem specQuay_l0 (l : List S59) (r : List Int) (hl : r.length ≤ l.length) (hb : r.length ≤ 1048576) (hv : ∀ x ∈ l, vh x = true) : ∀ (d n k : Nat), n + d = 7 → d * (r.length + 2) < k → r.length + 2 < k → spec_l04Quay.l0 k l r (quayTo l r n) (n : Int) = some (quayTo l r 7) := by
  intro d
  induction d with
  | zero =>
    intro n k hd hk hk2
    obtain ⟨k, rfl⟩ : ∃ m, k = m + 1 := ⟨k - 1, by omega⟩
    have : n = 7 := by omega
    subst this
    simp only [spec_l04Quay.l0]
    rw [if_neg (by omega)]
  | succ d ih =>
    intro n k hd hk hk2
    rw [Nat.succ_mul] at hk
    generalize hZ : d * (r.length + 2) = Z at hk
    obtain ⟨k, rfl⟩ : ∃ m, k = m + 1 := ⟨k - 1, by omega⟩
    have hw := withH_length l r (n : Int)
    have hx := longH_in (xs := withH l r (n : Int)) (fun y hy => hv y (withH_sub hy))
    have hq := quayTo_in (l := l) (r := r) hv n
    simp only [spec_l04Quay.l0]
    rw [if_pos (by omega), with_is l r n hl hb k (by omega)]
    simp only [Option.bind_some]
    have e := specQuay_l1 l r (quayTo l r n) n (withH l r n) (by omega) (fun y hy => hv y (withH_sub hy)) 0 (withH l r n).length 0 k (by simp) (by omega) (by omega)
    have e' : spec_l04Quay.l1 k l r (quayTo l r n) n (withH l r n) 0 0 = _ := e
    rw [e', w64_id (by omega), w64_id (by omega)]
    have I := fun k' h1 h2 => ih (n + 1) k' (by omega) h1 h2
    simp only [quayTo] at I
    have ec : ((n + 1 : Nat) : Int) = (n : Int) + 1 := by omega
    rw [ec] at I
    by_cases hd0 : d = 0
    · subst hd0
      have hn : n = 6 := by omega
      subst hn
      obtain ⟨m, hm⟩ : ∃ m, k - (withH l r ((6 : Nat) : Int)).length - 1 = m + 1 := ⟨k - (withH l r ((6 : Nat) : Int)).length - 2, by omega⟩
      rw [hm]
      simp only [spec_l04Quay.l0]
      rw [if_neg (by omega)]
      rfl
    · refine I _ (by rw [hZ]; omega) ?_
      have : 1 * (r.length + 2) ≤ d * (r.length + 2) := Nat.mul_le_mul_right _ (by omega)
      omega
theorem specQuay_is (l : List S59) (r : List Int) (hl : r.length ≤ l.length) (hb : r.length ≤ 1048576) (hv : ∀ x ∈ l, vh x = true) (k : Nat) (hk : 7 * (r.length + 2) < k) : spec_l04Quay.f k l r = some (quayTo l r 7) := by
  unfold spec_l04Quay.f
  exact specQuay_l0 l r hl hb hv 7 0 k rfl hk (by omega)

/-- What both answer. -/
def quayR (l : List S59) (r : List Int) : Int × Int := if codeH l = 0 then (if toldR l.length r = true then (quayTo l r 7, 0) else (0, 4)) else (0, codeH l)
theorem implQuayLength_is (l : List S59) (r : List Int) (hl : l.length ≤ 1048576) (hr : r.length ≤ 1048576) (k : Nat) (hk : l.length < k) (hk2 : r.length < k) : impl_QuayLength.f k l r = some (quayR l r) := by
  unfold impl_QuayLength.f quayR
  rw [hullsCode_is l (by omega) k hk]
  simp only [Option.bind_some]
  by_cases hc : codeH l = 0
  · rw [if_pos hc, if_pos hc, areNumbers_is l r (by omega) (by omega) k hk2]
    simp only [Option.bind_some]
    by_cases ht : toldR l.length r = true
    · rw [if_pos ht, if_pos ht]
      unfold impl_quay.f
      have h1 := toldR_ok ht
      rw [if_pos ⟨by omega, hl, h1.2, (codeH_ok hc).2⟩]
      rfl
    · rw [if_neg ht, if_neg ht]
  · rw [if_neg hc, if_neg hc]
theorem specQuayLength_is (l : List S59) (r : List Int) (hl : l.length ≤ 1048576) (hr : r.length ≤ 1048576) (h8 : ∀ x ∈ l, In8 x) (k : Nat) (hk : l.length < k) (hk2 : 7 * (r.length + 2) + 1 < k) : spec_QuayLength.f k l r = some (quayR l r) := by
  obtain ⟨k, rfl⟩ : ∃ m, k = m + 1 := ⟨k - 1, by omega⟩
  unfold spec_QuayLength.f quayR
  rw [l04Asked_is l (by omega) h8 _ hk]
  simp only [Option.bind_some]
  by_cases hc : codeH l = 0
  · rw [if_pos hc, if_pos hc, told_is l r (by omega) (by omega) _ (by omega)]
    simp only [Option.bind_some, spec_QuayLength.j0]
    cases ht : toldR l.length r with
    | true =>
      have h1 := toldR_ok ht
      simp only [Bool.not_true, Bool.false_eq_true, if_false, if_true]
      rw [if_pos hc, specQuay_is l r (by omega) (by omega) (codeH_ok hc).2 k (by omega)]
      rfl
    | false => simp
  · rw [if_neg hc, if_neg hc]
    simp only [spec_QuayLength.j0, Bool.false_eq_true, if_false]
    rw [if_neg hc]

theorem FnExactQuayLength : FnExactQuayLength.Said := by
  intro l r hm hy hok hm' hy' hok'
  have hl : l.length ≤ 93824992236885 := by omega
  have h8 := cvH_in hok
  have hlm : (l.map cvH).length = l.length := List.length_map ..
  refine ⟨l.length + 7 * (r.length + 2) + 4, ?_⟩
  unfold laws_FnExactQuayLength.f
  by_cases big0 : (r.length : Int) > 1048576
  · rw [if_pos big0]
  rw [if_neg big0, szHullS_is l _ hl (by omega) (by omega)]
  simp only [Option.bind_some]
  by_cases big : (1048576 : Int) < l.length
  · rw [if_pos big]; rfl
  · rw [if_neg big, if_neg (by omega), toHullS_is l hl _ (by omega)]
    simp only [Option.bind_some]
    rw [toInt64S_is r (by omega) _ (by omega)]
    simp only [Option.bind_some]
    rw [specQuayLength_is _ r (by omega) (by omega) h8 _ (by omega) (by omega), implQuayLength_is _ r (by omega) (by omega) _ (by omega) (by omega)]
    simp only [Option.bind_some, if_true, bne_self_eq_false, laws_FnExactQuayLength.j0, Bool.false_eq_true, if_false]
    rw [toHullS_is l hl _ (by omega), toInt64S_is r (by omega) _ (by omega)]
    simp only [Option.bind_some]
    rw [eqHullS_is _ (by omega) _ (by omega)]
    simp only [Option.bind_some, if_true]
    rw [eqInt64S_is _ (by omega) _ (by omega)]
    simp

end Go.Proofs.Ytpimdgkofgendaa.Pure
