/- The program's CheckRafts returns what the reference's CheckRafts returns, for all hulls, all numbers of rafts (lists of at most 2^20; longer ones the law lets by) and every depth. -/
import Derived.Test.YtpimdgkofgendaaPFnExactCheckRaftsx6
namespace Go.Proofs.Ytpimdgkofgendaa.Pure
open Go.RowKit Go.Proofs.Ytpimdgkofgendaa.PFnExactCheckRafts Go.Proofs.YtpimdgkofgendaaW.PrintWords Go.Proofs.YtpimdgkofgendaaW.PrintLast Go.Proofs.YtpimdgkofgendaaW.PrintMore
set_option linter.unusedVariables false
set_option linter.unusedSimpArgs false

def cvH (x : S65) : S59 := ⟨x.f0, x.f1, x.f2⟩

theorem toHullS_l0 (l : List S65) (hl : l.length ≤ 1152921504606846976) : ∀ (rest : List S65) (p k : Nat) (ys : List S59), l.drop p = rest → ys.length = l.length → rest.length < k →
    laws_toHullS.l0 k l ys (p : Int) = some (ys.take p ++ rest.map cvH) := by
  intro rest
  induction rest with
  | nil =>
    intro p k ys hd hy hk
    obtain ⟨k, rfl⟩ : ∃ m, k = m + 1 := ⟨k - 1, by simp at hk; omega⟩
    have := of_drop_nil hd
    simp only [laws_toHullS.l0]
    rw [if_neg (by omega), List.take_of_length_le (by omega)]
    simp
  | cons x rest ih =>
    intro p k ys hd hy hk
    simp only [List.length_cons] at hk
    obtain ⟨k, rfl⟩ : ∃ m, k = m + 1 := ⟨k - 1, by omega⟩
    obtain ⟨hp, hd', hx⟩ := of_drop hd
    simp only [laws_toHullS.l0, laws_toHull.f, rd_T65, hx, Option.bind_some]
    rw [if_pos (by omega), if_pos (by omega), if_pos (by omega), step64 hp hl, ih (p + 1) k _ hd' (by simpa using hy) (by omega), Int.toNat_natCast, take_set_at _ _ _ (by omega)]
    simp [cvH]

theorem toHullS_is (l : List S65) (hl : l.length ≤ 93824992236885) (k : Nat) (hk : l.length < k) : laws_toHullS.f k l = some (l.map cvH) := by
  unfold laws_toHullS.f
  rw [if_pos (by omega), if_pos (by omega)]
  have := toHullS_l0 l (by omega) l 0 k (List.replicate (l.length : Int).toNat z59) rfl (by simp) hk
  simpa using this

theorem cvH_in {l : List S65} (h : ∀ x ∈ l, (Lit.int .i8 x.f0).wf = true ∧ (Lit.int .i8 x.f1).wf = true ∧ (Lit.int .i8 x.f2).wf = true) : ∀ x ∈ l.map cvH, In8 x := by
  intro x hx
  obtain ⟨y, hy, rfl⟩ := List.mem_map.1 hx
  exact ⟨i8_in (h y hy).1, i8_in (h y hy).2.1, i8_in (h y hy).2.2⟩

theorem eqHullS_l0 (l : List S59) (hl : l.length ≤ 1152921504606846976) : ∀ (rest : List S59) (p k : Nat), l.drop p = rest → rest.length < k → laws_eqHullS.l0 k l l (p : Int) = some true := by
  intro rest
  induction rest with
  | nil =>
    intro p k hd hk
    obtain ⟨k, rfl⟩ : ∃ m, k = m + 1 := ⟨k - 1, by simp at hk; omega⟩
    have := of_drop_nil hd
    simp only [laws_eqHullS.l0]
    rw [if_neg (by omega)]
  | cons x rest ih =>
    intro p k hd hk
    simp only [List.length_cons] at hk
    obtain ⟨k, rfl⟩ : ∃ m, k = m + 1 := ⟨k - 1, by omega⟩
    obtain ⟨hp, hd', hx⟩ := of_drop hd
    simp only [laws_eqHullS.l0, laws_eqHull.f, if_true, Option.bind_some]
    rw [if_pos (by omega), if_pos (by omega), if_pos (by omega), step64 hp hl]
    exact ih (p + 1) k hd' (by omega)

theorem eqHullS_is (l : List S59) (hl : l.length ≤ 1152921504606846976) (k : Nat) (hk : l.length < k) : laws_eqHullS.f k l l = some true := by
  unfold laws_eqHullS.f
  rw [if_pos rfl]
  exact eqHullS_l0 l hl l 0 k rfl hk

theorem szHullS_is (l : List S65) (a : Int) (hl : l.length ≤ 93824992236885) (h0 : 0 ≤ a) (h1 : a ≤ 1048576) : laws_szHullS.f l a = some (if a < l.length then -1 else a - l.length) := by
  unfold laws_szHullS.f
  rw [w64_id (by omega)]
  by_cases h : a < l.length
  · rw [if_pos (by omega), if_pos h]
  · rw [if_neg (by omega), if_neg h]

theorem l00In_is (a lo hi : Int) : spec_l00In.f a lo hi = some (decide (lo ≤ a ∧ a ≤ hi)) := by
  unfold spec_l00In.f
  repeat' split
  all_goals first | exact some_dec (by omega) | exact some_decF (by omega)

theorem vh_and (x : S59) : vh x = (decide (1 ≤ x.f0 ∧ x.f0 ≤ 40) && (decide (1 ≤ x.f1 ∧ x.f1 ≤ 100) && decide (1 ≤ x.f2 ∧ x.f2 ≤ 20))) := by
  unfold vh
  rw [← Bool.decide_and, ← Bool.decide_and]
  exact decide_eq_decide.2 (by omega)

theorem specValid_is (a b c : Int) (h : In8 ⟨a, b, c⟩) : spec_l04Hull.f a b c = some (vh ⟨a, b, c⟩) := by
  obtain ⟨h0, h1, h2⟩ := h
  simp only at h0 h1 h2
  unfold spec_l04Hull.f
  rw [w64_id (by omega), w64_id (by omega), w64_id (by omega), l00In_is, l00In_is, l00In_is, vh_and]
  simp only [Option.bind_some]
  cases decide (1 ≤ a ∧ a ≤ 40) <;> cases decide (1 ≤ b ∧ b ≤ 100) <;> rfl

theorem l04Asked_l0 (l : List S59) (hl : l.length ≤ 1152921504606846976) (h8 : ∀ x ∈ l, In8 x) : ∀ (rest : List S59) (p k : Nat), l.drop p = rest → rest.length < k →
    spec_l04Asked.l0 k l (p : Int) = some (if rest.all vh then (if l.length > 7 then 3 else 0) else 1) := by
  intro rest
  induction rest with
  | nil =>
    intro p k hd hk
    obtain ⟨k, rfl⟩ : ∃ m, k = m + 1 := ⟨k - 1, by simp at hk; omega⟩
    have := of_drop_nil hd
    simp only [spec_l04Asked.l0]
    rw [if_neg (by omega)]
    by_cases h : l.length > 7
    · rw [if_pos (by omega)]; simp [h]
    · rw [if_neg (by omega)]; simp [h]
  | cons x rest ih =>
    intro p k hd hk
    simp only [List.length_cons] at hk
    obtain ⟨k, rfl⟩ : ∃ m, k = m + 1 := ⟨k - 1, by omega⟩
    obtain ⟨hp, hd', hx⟩ := of_drop hd
    have hx8 : In8 x := h8 x (List.mem_of_mem_drop (by rw [hd]; exact List.mem_cons_self))
    simp only [spec_l04Asked.l0, rd_T59, hx, specValid_is _ _ _ hx8, Option.bind_some]
    rw [if_pos (by omega), if_pos (by omega), step64 hp hl, ih (p + 1) k hd' (by omega)]
    cases hv : vh x <;> simp [hv]

theorem l04Asked_is (l : List S59) (hl : l.length ≤ 1152921504606846976) (h8 : ∀ x ∈ l, In8 x) (k : Nat) (hk : l.length < k) : spec_l04Asked.f k l = some (codeH l) := by
  unfold spec_l04Asked.f codeH
  exact l04Asked_l0 l hl h8 l 0 k rfl hk

/-- Numbers of rafts as they may be told. -/
def toldR (n : Nat) (r : List Int) : Bool := decide (r.length = n) && r.all (fun x => decide (0 ≤ x ∧ x < 7))
theorem areNumbers_l0 (r : List Int) (hr : r.length ≤ 1152921504606846976) : ∀ (rest : List Int) (p k : Nat), r.drop p = rest → rest.length < k → impl_areNumbers.l0 k r (r.length : Int) (p : Int) = some (rest.all (fun x => decide (0 ≤ x ∧ x < 7))) := by
  intro rest
  induction rest with
  | nil =>
    intro p k hd hk
    obtain ⟨k, rfl⟩ : ∃ m, k = m + 1 := ⟨k - 1, by simp at hk; omega⟩
    have := of_drop_nil hd
    simp only [impl_areNumbers.l0]
    rw [if_neg (by omega)]
    rfl
  | cons x rest ih =>
    intro p k hd hk
    simp only [List.length_cons] at hk
    obtain ⟨k, rfl⟩ : ∃ m, k = m + 1 := ⟨k - 1, by omega⟩
    obtain ⟨hp, hd', hx⟩ := of_drop hd
    simp only [impl_areNumbers.l0, rd, hx, List.all_cons]
    rw [if_pos (by omega), if_pos (by omega), if_pos (by omega), step64 hp hr, ih (p + 1) k hd' (by omega)]
    by_cases h0 : x < 0
    · rw [if_pos h0, decide_eq_false (by omega)]; rfl
    · rw [if_neg h0]
      by_cases h7 : x ≥ 7
      · rw [if_pos h7, decide_eq_false (by omega)]; rfl
      · rw [if_neg h7, decide_eq_true (by omega)]; rfl
theorem areNumbers_is (l : List S59) (r : List Int) (hl : l.length ≤ 1152921504606846976) (hr : r.length ≤ 1152921504606846976) (k : Nat) (hk : r.length < k) : impl_areNumbers.f k l r = some (toldR l.length r) := by
  unfold impl_areNumbers.f toldR
  by_cases h : r.length = l.length
  · have e := areNumbers_l0 r hr r 0 k rfl hk
    have e' : impl_areNumbers.l0 k r (r.length : Int) 0 = _ := e
    rw [if_pos (by omega), e', decide_eq_true h]; rfl
  · rw [if_neg (by omega), decide_eq_false h]; rfl
theorem told_l0 (l : List S59) (r : List Int) (hl : l.length ≤ 1152921504606846976) (hr : r.length ≤ 1152921504606846976) : ∀ (rest : List Int) (p k : Nat), r.drop p = rest → rest.length < k → spec_l04Told.l0 k l r (p : Int) = some (rest.all (fun x => decide (0 ≤ x ∧ x < 7)) && decide (r.length = l.length)) := by
  intro rest
  induction rest with
  | nil =>
    intro p k hd hk
    obtain ⟨k, rfl⟩ : ∃ m, k = m + 1 := ⟨k - 1, by simp at hk; omega⟩
    have := of_drop_nil hd
    simp only [spec_l04Told.l0]
    rw [if_neg (by omega)]
    simp only [List.all_nil, Bool.true_and, Option.some.injEq]
    by_cases h : r.length = l.length
    · rw [decide_eq_true h]; exact beq_iff_eq.2 (by omega)
    · rw [decide_eq_false h]; exact beq_eq_false_iff_ne.2 (by omega)
  | cons x rest ih =>
    intro p k hd hk
    simp only [List.length_cons] at hk
    obtain ⟨k, rfl⟩ : ∃ m, k = m + 1 := ⟨k - 1, by omega⟩
    obtain ⟨hp, hd', hx⟩ := of_drop hd
    have e : spec_l04Number.f x = some (decide (0 ≤ x ∧ x < 7)) := by
      unfold spec_l04Number.f spec_l00In.f
      repeat' split
      all_goals first | (simp only [Option.bind_some]; first | exact some_decT (by omega) | exact some_decF (by omega) | exact some_dec (by omega)) | exact some_decT (by omega) | exact some_decF (by omega) | exact some_dec (by omega)
    simp only [spec_l04Told.l0, rd, hx, List.all_cons]
    rw [if_pos (by omega), if_pos (by omega), e, step64 hp hr, ih (p + 1) k hd' (by omega)]
    simp only [Option.bind_some]
    cases decide (0 ≤ x ∧ x < 7) <;> simp
theorem told_is (l : List S59) (r : List Int) (hl : l.length ≤ 1152921504606846976) (hr : r.length ≤ 1152921504606846976) (k : Nat) (hk : r.length < k) : spec_l04Told.f k l r = some (toldR l.length r) := by
  unfold spec_l04Told.f toldR
  have e := told_l0 l r hl hr r 0 k rfl hk
  have e' : spec_l04Told.l0 k l r 0 = _ := e
  rw [e', Bool.and_comm]
theorem toldR_ok {n : Nat} {r : List Int} (h : toldR n r = true) : r.length = n ∧ ∀ x ∈ r, 0 ≤ x ∧ x < 7 := by
  unfold toldR at h
  rw [Bool.and_eq_true, decide_eq_true_iff, List.all_eq_true] at h
  exact ⟨h.1, fun x hx => of_decide_eq_true (h.2 x hx)⟩
theorem with_l0 (l : List S59) (r : List Int) (a : Int) (hl : r.length ≤ l.length) (hb : r.length ≤ 1048576) : ∀ (rest : List Int) (p k : Nat), r.drop p = rest → rest.length < k → spec_l04With.l0 k l r a (withH l (r.take p) a) (p : Int) = some (withH l r a) := by
  intro rest
  induction rest with
  | nil =>
    intro p k hd hk
    obtain ⟨k, rfl⟩ : ∃ m, k = m + 1 := ⟨k - 1, by simp at hk; omega⟩
    have := of_drop_nil hd
    simp only [spec_l04With.l0]
    rw [if_neg (by omega), List.take_of_length_le (by omega)]
  | cons x rest ih =>
    intro p k hd hk
    simp only [List.length_cons] at hk
    obtain ⟨k, rfl⟩ : ∃ m, k = m + 1 := ⟨k - 1, by omega⟩
    obtain ⟨hp, hd', hx⟩ := of_drop hd
    have hy : r[p] = x := by
      have := hx 0
      rw [Int.toNat_natCast, List.getD_eq_getElem?_getD, List.getElem?_eq_getElem hp] at this
      exact this
    have hlt : (r.take p).length = p := by rw [List.length_take]; omega
    have hw := withH_length l (r.take p) a
    rw [hlt] at hw
    have hrd : rd_T59 l (p : Int) = l[p] := by rw [rd_T59, Int.toNat_natCast, List.getD_eq_getElem?_getD, List.getElem?_eq_getElem (by omega)]; rfl
    have hs := withH_snoc l (r.take p) x a (by omega)
    have I := ih (p + 1) k hd' (by omega)
    rw [List.take_succ_eq_append_getElem hp, hy, hs] at I
    simp only [hlt] at I
    simp only [spec_l04With.l0, rd, hx, hrd]
    rw [if_pos (by omega), if_pos (by omega), step64 hp (by omega)]
    by_cases e : x = a
    · rw [if_pos e, if_pos (by omega), if_pos (by omega)]
      rw [if_pos e] at I
      exact I
    · rw [if_neg e]
      rw [if_neg e, List.append_nil] at I
      exact I
theorem with_is (l : List S59) (r : List Int) (a : Int) (hl : r.length ≤ l.length) (hb : r.length ≤ 1048576) (k : Nat) (hk : r.length < k) : spec_l04With.f k l r a = some (withH l r a) := by
  unfold spec_l04With.f
  have := with_l0 l r a hl hb r 0 k rfl hk
  simpa [withH] using this

theorem l04Deep_l0 (l : List S59) (hl : l.length ≤ 93824992236885) (h8 : ∀ x ∈ l, In8 x) : ∀ (rest : List S59) (p k : Nat) (a : Int), l.drop p = rest → rest.length < k → -128 * (p : Int) ≤ a → a ≤ 128 * (p : Int) →
    spec_l04Deep.l0 k l a (p : Int) = some (a + deepH rest) := by
  intro rest
  induction rest with
  | nil =>
    intro p k a hd hk ha0 ha1
    obtain ⟨k, rfl⟩ : ∃ m, k = m + 1 := ⟨k - 1, by simp at hk; omega⟩
    have := of_drop_nil hd
    simp only [spec_l04Deep.l0]
    rw [if_neg (by omega)]
    simp [deepH]
  | cons x rest ih =>
    intro p k a hd hk ha0 ha1
    simp only [List.length_cons] at hk
    obtain ⟨k, rfl⟩ : ∃ m, k = m + 1 := ⟨k - 1, by omega⟩
    obtain ⟨hp, hd', hx⟩ := of_drop hd
    have hx8 : In8 x := h8 x (List.mem_of_mem_drop (by rw [hd]; exact List.mem_cons_self))
    have h0 := hx8.1
    simp only [spec_l04Deep.l0, rd_T59, hx]
    rw [if_pos (by omega), if_pos (by omega), step64 hp (by omega), w64_id (a := x.f0) (by omega), w64_id (a := x.f0 + 1) (by omega), w64_id (by omega), ih (p + 1) k _ hd' (by omega) (by omega) (by omega)]
    simp only [deepH]
    congr 1
    omega

theorem l04Deep_is (l : List S59) (hl : l.length ≤ 93824992236885) (h8 : ∀ x ∈ l, In8 x) (k : Nat) (hk : l.length < k) : spec_l04Deep.f k l = some (deepH l) := by
  unfold spec_l04Deep.f
  have := l04Deep_l0 l hl h8 l 0 k 0 rfl hk (by simp) (by simp)
  simpa using this

theorem specMay_is (x y : S59) (hx : In8 x) (hy : In8 y) : spec_l04May.f x.f0 x.f1 x.f2 y.f0 y.f1 y.f2 = some (mayH x y) := by
  obtain ⟨_, x1, x2⟩ := hx
  obtain ⟨_, y1, y2⟩ := hy
  unfold spec_l04May.f mayH
  rw [w64_id (a := x.f2) (by omega), w64_id (a := y.f2) (by omega), w64_id (a := x.f1) (by omega), w64_id (a := y.f1) (by omega), w64_id (by omega), w64_id (by omega)]
  repeat' split
  all_goals first | exact some_dec (by omega) | exact some_decF (by omega)

theorem l04Wrong_l0 (l : List S59) (hl : l.length ≤ 1152921504606846976) (hv : ∀ x ∈ l, In8 x) : ∀ (rest : List S59) (x : S59) (p k : Nat), l.drop p = x :: rest → rest.length < k →
    spec_l04Wrong.l0 k l ((p + 1 : Nat) : Int) = some (wrongFrom ((p + 1 : Nat) : Int) x rest) := by
  intro rest
  induction rest with
  | nil =>
    intro x p k hd hk
    obtain ⟨k, rfl⟩ : ∃ m, k = m + 1 := ⟨k - 1, by simp at hk; omega⟩
    obtain ⟨hp, hd', hx⟩ := of_drop hd
    have := of_drop_nil hd'
    simp only [spec_l04Wrong.l0, wrongFrom]
    rw [if_neg (by omega)]
  | cons y rest ih =>
    intro x p k hd hk
    simp only [List.length_cons] at hk
    obtain ⟨k, rfl⟩ : ∃ m, k = m + 1 := ⟨k - 1, by omega⟩
    obtain ⟨hp, hd', hx⟩ := of_drop hd
    obtain ⟨hp', hd'', hy⟩ := of_drop hd'
    have vx := hv x (List.mem_of_mem_drop (by rw [hd]; exact List.mem_cons_self))
    have vy := hv y (List.mem_of_mem_drop (by rw [hd']; exact List.mem_cons_self))
    have e1 : wrap64 (((p + 1 : Nat) : Int) - 1) = (p : Int) := by rw [w64_id (by omega)]; omega
    simp only [spec_l04Wrong.l0, e1, rd_T59, hx, hy, specMay_is x y vx vy, Option.bind_some, wrongFrom]
    rw [if_pos (by omega), if_pos (by omega), if_pos (by omega), if_pos (by omega), step64 hp' hl]
    rw [ih y (p + 1) k hd' (by omega)]
    cases mayH x y <;> simp [w64_id] <;> rfl

theorem l04Wrong_is (l : List S59) (hl : l.length ≤ 1152921504606846976) (hv : ∀ x ∈ l, In8 x) (k : Nat) (hk : l.length < k) : spec_l04Wrong.f k l = some (wrongH l) := by
  unfold spec_l04Wrong.f
  cases l with
  | nil =>
    obtain ⟨k, rfl⟩ : ∃ m, k = m + 1 := ⟨k - 1, by simp at hk; omega⟩
    simp only [spec_l04Wrong.l0]
    rw [if_neg (by simp)]
    rfl
  | cons x r =>
    have := l04Wrong_l0 (x :: r) hl hv r x 0 k rfl (by simp at hk; omega)
    simpa [wrongH] using this

theorem withH_nil {l : List S59} {r : List Int} {k : Int} (h : k ∉ r) : withH l r k = [] := by
  unfold withH
  rw [List.map_eq_nil_iff, List.filter_eq_nil_iff]
  intro q hq e
  exact h (beq_iff_eq.1 e ▸ (List.of_mem_zip hq).2)
theorem areH_all (l : List S59) (deep : Int) (r : List Int) (hd : 0 ≤ deep) (hr : ∀ x ∈ r, 0 ≤ x ∧ x < 7) : areH l deep r = r.all (fun x => fitsH l deep r x) := by
  rw [Bool.eq_iff_iff]
  unfold areH
  simp only [List.all_eq_true, List.mem_range]
  constructor
  · intro h x hx
    have := hr x hx
    have h2 := h x.toNat (by omega)
    rw [show ((x.toNat : Nat) : Int) = x by omega] at h2
    exact h2
  · intro h k hk
    by_cases e : (k : Int) ∈ r
    · exact h _ e
    · unfold fitsH
      rw [withH_nil e, decide_eq_true (by simp [wrongH]), decide_eq_true (by simp [deepH]; omega)]
      rfl
theorem fits_is (xs : List S59) (deep : Int) (hl : xs.length ≤ 1048576) (hv : ∀ x ∈ xs, vh x = true) (k : Nat) (hk : xs.length < k) : spec_l04Fits.f k xs deep = some (decide (wrongH xs < 0) && decide (deepH xs ≤ deep)) := by
  unfold spec_l04Fits.f
  rw [l04Wrong_is xs (by omega) (fun x hx => vh_in8 (hv x hx)) k hk]
  simp only [Option.bind_some]
  by_cases h : wrongH xs < 0
  · rw [if_pos h, l04Deep_is xs (by omega) (fun x hx => vh_in8 (hv x hx)) k hk, decide_eq_true h]; rfl
  · rw [if_neg h, decide_eq_false h]; rfl
/-- The code of hulls and how deep rafts may be. -/
def deepC (l : List S59) (deep : Int) : Int := if codeH l = 0 then (if 1 ≤ deep ∧ deep ≤ 400 then 0 else 2) else codeH l
theorem deepC_ok {l : List S59} {deep : Int} (h : deepC l deep = 0) : codeH l = 0 ∧ 1 ≤ deep ∧ deep ≤ 400 := by
  unfold deepC at h
  split at h
  · split at h
    · rename_i h1 h2; exact ⟨h1, h2⟩
    · cases h
  · rename_i h1; exact absurd h h1
theorem deepCode_is (l : List S59) (deep : Int) (hl : l.length ≤ 1048576) (k : Nat) (hk : l.length < k) : impl_deepCode.f k l deep = some (deepC l deep) := by
  unfold impl_deepCode.f deepC
  rw [hullsCode_is l (by omega) k hk]
  simp only [Option.bind_some]
  by_cases hc : codeH l = 0
  · rw [if_pos hc, if_pos hc]
    repeat' split
    all_goals first | rfl | (exfalso; omega)
  · rw [if_neg hc, if_neg hc]
theorem room_is (l : List S59) (deep : Int) (hl : l.length ≤ 1048576) (h8 : ∀ x ∈ l, In8 x) (k : Nat) (hk : l.length < k) : spec_l04Room.f k l deep = some (deepC l deep) := by
  unfold spec_l04Room.f deepC
  rw [l04Asked_is l (by omega) h8 k hk]
  simp only [Option.bind_some]
  by_cases hc : codeH l = 0
  · rw [if_pos hc, if_pos hc]
    unfold spec_l00In.f
    by_cases h1 : deep ≥ 1
    · rw [if_pos h1]
      simp only [Option.bind_some]
      by_cases h2 : deep ≤ 400
      · rw [decide_eq_true h2, if_pos rfl, if_pos ⟨by omega, h2⟩, hc]
      · rw [decide_eq_false h2, if_neg (by simp), if_neg (fun g => h2 g.2)]
    · rw [if_neg h1]
      simp only [Option.bind_some]
      rw [if_neg (by simp), if_neg (fun g => h1 g.1)]
  · rw [if_neg hc, if_neg hc]

/-! The law's harness over a result that is a list of whole numbers. -/
theorem eqInt64S_l0 (l : List Int) (hl : l.length ≤ 1152921504606846976) : ∀ (rest : List Int) (p k : Nat), l.drop p = rest → rest.length < k → laws_eqInt64S.l0 k l l (p : Int) = some true := by
  intro rest
  induction rest with
  | nil =>
    intro p k hd hk
    obtain ⟨k, rfl⟩ : ∃ m, k = m + 1 := ⟨k - 1, by simp at hk; omega⟩
    have := of_drop_nil hd
    simp only [laws_eqInt64S.l0]
    rw [if_neg (by omega)]
  | cons x rest ih =>
    intro p k hd hk
    simp only [List.length_cons] at hk
    obtain ⟨k, rfl⟩ : ∃ m, k = m + 1 := ⟨k - 1, by omega⟩
    obtain ⟨hp, hd', hx⟩ := of_drop hd
    simp only [laws_eqInt64S.l0, if_true]
    rw [if_pos (by omega), if_pos (by omega), if_pos (by omega), step64 hp hl]
    exact ih (p + 1) k hd' (by omega)

theorem eqInt64S_is (l : List Int) (hl : l.length ≤ 1152921504606846976) (k : Nat) (hk : l.length < k) : laws_eqInt64S.f k l l = some true := by
  unfold laws_eqInt64S.f
  rw [if_pos rfl]
  exact eqInt64S_l0 l hl l 0 k rfl hk

theorem toInt64S_l0 (l : List Int) (hl : l.length ≤ 1152921504606846976) : ∀ (rest : List Int) (p k : Nat) (ys : List Int), l.drop p = rest → ys.length = l.length → rest.length < k →
    laws_toInt64S.l0 k l ys (p : Int) = some (ys.take p ++ rest) := by
  intro rest
  induction rest with
  | nil =>
    intro p k ys hd hy hk
    obtain ⟨k, rfl⟩ : ∃ m, k = m + 1 := ⟨k - 1, by simp at hk; omega⟩
    have := of_drop_nil hd
    simp only [laws_toInt64S.l0]
    rw [if_neg (by omega), List.take_of_length_le (by omega)]
    simp
  | cons x rest ih =>
    intro p k ys hd hy hk
    simp only [List.length_cons] at hk
    obtain ⟨k, rfl⟩ : ∃ m, k = m + 1 := ⟨k - 1, by omega⟩
    obtain ⟨hp, hd', hx⟩ := of_drop hd
    simp only [laws_toInt64S.l0, rd, hx, Option.bind_some]
    rw [if_pos (by omega), if_pos (by omega), if_pos (by omega), step64 hp hl, ih (p + 1) k _ hd' (by simpa using hy) (by omega), Int.toNat_natCast, take_set_at _ _ _ (by omega)]
    simp
theorem toInt64S_is (l : List Int) (hl : l.length * 8 ≤ 140737488351232) (k : Nat) (hk : l.length < k) : laws_toInt64S.f k l = some l := by
  unfold laws_toInt64S.f
  rw [if_pos (by omega), if_pos (by omega)]
  have := toInt64S_l0 l (by omega) l 0 k (List.replicate (l.length : Int).toNat 0) rfl (by simp) hk
  simpa using this

/-- The law, in plain Lean. -/
def FnExactCheckRafts.Said : Prop := ∀ (l0 : List S65) (l1 : List Int) (a2 : Int), l0.length ≤ maxLen → l0.length * 3 ≤ 140737488351232 → (∀ x ∈ l0, (Lit.int .i8 x.f0).wf = true ∧ (Lit.int .i8 x.f1).wf = true ∧ (Lit.int .i8 x.f2).wf = true) → l1.length ≤ maxLen → l1.length * 8 ≤ 140737488351232 → (∀ x ∈ l1, (Lit.int .i64 x).wf = true) → (Lit.int .i64 a2).wf = true → ∃ k, laws_FnExactCheckRafts.f k l0 l1 a2 = some true

theorem specCheck_l0 (l : List S59) (r : List Int) (deep : Int) (hl : r.length ≤ l.length) (hb : r.length ≤ 1048576) (hv : ∀ x ∈ l, vh x = true) : ∀ (rest : List Int) (p k : Nat), r.drop p = rest → rest.length + r.length + 2 < k → spec_CheckRafts.l0 k l r deep (p : Int) = some (rest.all (fun x => fitsH l deep r x), 0) := by
  intro rest
  induction rest with
  | nil =>
    intro p k hd hk
    obtain ⟨k, rfl⟩ : ∃ m, k = m + 1 := ⟨k - 1, by omega⟩
    have := of_drop_nil hd
    simp only [spec_CheckRafts.l0]
    rw [if_neg (by omega)]
    rfl
  | cons x rest ih =>
    intro p k hd hk
    simp only [List.length_cons] at hk
    obtain ⟨k, rfl⟩ : ∃ m, k = m + 1 := ⟨k - 1, by omega⟩
    obtain ⟨hp, hd', hx⟩ := of_drop hd
    have hw := withH_length l r x
    simp only [spec_CheckRafts.l0, rd, hx, List.all_cons]
    rw [if_pos (by omega), if_pos (by omega), with_is l r x hl hb k (by omega)]
    simp only [Option.bind_some]
    rw [fits_is _ deep (by omega) (fun y hy => hv y (withH_sub hy)) k (by omega), step64 hp (by omega), ih (p + 1) k hd' (by omega)]
    simp only [Option.bind_some]
    have e : fitsH l deep r x = (decide (wrongH (withH l r x) < 0) && decide (deepH (withH l r x) ≤ deep)) := rfl
    rw [← e]
    cases fitsH l deep r x <;> simp
/-- What both answer. -/
def checkR (l : List S59) (r : List Int) (deep : Int) : Bool × Int := if deepC l deep = 0 then (if toldR l.length r = true then (areH l deep r, 0) else (false, 0)) else (false, deepC l deep)
theorem implCheck_is (l : List S59) (r : List Int) (deep : Int) (hl : l.length ≤ 1048576) (hr : r.length ≤ 1048576) (k : Nat) (hk : l.length < k) (hk2 : r.length < k) : impl_CheckRafts.f k l r deep = some (checkR l r deep) := by
  unfold impl_CheckRafts.f checkR
  rw [deepCode_is l deep hl k hk]
  simp only [Option.bind_some]
  by_cases hc : deepC l deep = 0
  · rw [if_pos hc, if_pos hc, areNumbers_is l r (by omega) (by omega) k hk2]
    simp only [Option.bind_some]
    by_cases ht : toldR l.length r = true
    · rw [if_pos ht, if_pos ht]
      unfold impl_areRafts.f
      have h1 := toldR_ok ht
      rw [if_pos ⟨by omega, hl, h1.2, (codeH_ok (deepC_ok hc).1).2⟩]
      rfl
    · rw [if_neg ht, if_neg ht]
  · rw [if_neg hc, if_neg hc]
theorem specCheck_is (l : List S59) (r : List Int) (deep : Int) (hl : l.length ≤ 1048576) (hr : r.length ≤ 1048576) (h8 : ∀ x ∈ l, In8 x) (k : Nat) (hk : l.length < k) (hk2 : 2 * r.length + 2 < k) : spec_CheckRafts.f k l r deep = some (checkR l r deep) := by
  unfold spec_CheckRafts.f checkR
  rw [room_is l deep hl h8 _ hk]
  simp only [Option.bind_some]
  by_cases hc : deepC l deep = 0
  · have hok := deepC_ok hc
    rw [if_pos hc, if_pos hc, told_is l r (by omega) (by omega) _ (by omega)]
    simp only [Option.bind_some]
    by_cases ht : toldR l.length r = true
    · have h1 := toldR_ok ht
      have e := specCheck_l0 l r deep (by omega) (by omega) (codeH_ok hok.1).2 r 0 k rfl (by omega)
      have e' : spec_CheckRafts.l0 k l r deep 0 = _ := e
      rw [if_pos ht, if_pos ht, e', areH_all l deep r (by omega) h1.2]
    · rw [if_neg ht, if_neg ht]
  · rw [if_neg hc, if_neg hc]

theorem FnExactCheckRafts : FnExactCheckRafts.Said := by
  intro l r deep hm hy hok hm' hy' hok' hd
  have hl : l.length ≤ 93824992236885 := by omega
  have h8 := cvH_in hok
  have hlm : (l.map cvH).length = l.length := List.length_map ..
  refine ⟨l.length + 2 * r.length + 10, ?_⟩
  unfold laws_FnExactCheckRafts.f
  by_cases big0 : (r.length : Int) > 1048576
  · rw [if_pos big0]
  rw [if_neg big0, szHullS_is l _ hl (by omega) (by omega)]
  simp only [Option.bind_some]
  by_cases big : (1048576 : Int) < l.length
  · rw [if_pos big]; rfl
  · rw [if_neg big, if_neg (by omega), toHullS_is l hl _ (by omega)]
    simp only [Option.bind_some]
    rw [toInt64S_is r (by omega) _ (by omega)]
    simp only [Option.bind_some]
    rw [specCheck_is _ r deep (by omega) (by omega) h8 _ (by omega) (by omega), implCheck_is _ r deep (by omega) (by omega) _ (by omega) (by omega)]
    simp only [Option.bind_some, bne_self_eq_false, laws_FnExactCheckRafts.j0, Bool.false_eq_true, if_false]
    rw [toHullS_is l hl _ (by omega), toInt64S_is r (by omega) _ (by omega)]
    simp only [Option.bind_some]
    rw [eqHullS_is _ (by omega) _ (by omega)]
    simp only [Option.bind_some, if_true]
    rw [eqInt64S_is _ (by omega) _ (by omega)]
    simp

end Go.Proofs.Ytpimdgkofgendaa.Pure
