/- The program's ShortestQuay returns what the reference's ShortestQuay returns, for every list of hulls (of at most 2^20; longer ones the law lets by) and every depth. -/
import Derived.Test.YtpimdgkofgendaaPFnExactShortestQuayx9
namespace Go.Proofs.Ytpimdgkofgendaa.Pure
open Go.RowKit Go.Proofs.Ytpimdgkofgendaa.PFnExactShortestQuay Go.Proofs.YtpimdgkofgendaaW.PrintWords Go.Proofs.YtpimdgkofgendaaW.PrintLast Go.Proofs.YtpimdgkofgendaaW.PrintMore
set_option linter.unusedVariables false
set_option linter.unusedSimpArgs false

def cvH (x : S65) : S59 := ⟨x.f0, x.f1, x.f2⟩

theorem toHullS_l0 (l : List S65) (hl : l.length ≤ 1152921504606846976) : ∀ (rest : List S65) (p k : Nat) (ys : List S59), l.drop p = rest → ys.length = l.length → rest.length < k →
    laws_toHullS.l0 k l ys (p : Int) = some (ys.take p ++ rest.map cvH) := by
  intro rest
  induction rest with
  | nil =>
    intro p k ys hd hy hk
    obtain ⟨k, rfl⟩ : ∃ m, k = m + 1 := ⟨k - 1, by simp at hk; omega⟩
    have := of_drop_nil hd
    simp only [laws_toHullS.l0]
    rw [if_neg (by omega), List.take_of_length_le (by omega)]
    simp
  | cons x rest ih =>
    intro p k ys hd hy hk
    simp only [List.length_cons] at hk
    obtain ⟨k, rfl⟩ : ∃ m, k = m + 1 := ⟨k - 1, by omega⟩
    obtain ⟨hp, hd', hx⟩ := of_drop hd
    simp only [laws_toHullS.l0, laws_toHull.f, rd_T65, hx, Option.bind_some]
    rw [if_pos (by omega), if_pos (by omega), if_pos (by omega), step64 hp hl, ih (p + 1) k _ hd' (by simpa using hy) (by omega), Int.toNat_natCast, take_set_at _ _ _ (by omega)]
    simp [cvH]

theorem toHullS_is (l : List S65) (hl : l.length ≤ 93824992236885) (k : Nat) (hk : l.length < k) : laws_toHullS.f k l = some (l.map cvH) := by
  unfold laws_toHullS.f
  rw [if_pos (by omega), if_pos (by omega)]
  have := toHullS_l0 l (by omega) l 0 k (List.replicate (l.length : Int).toNat z59) rfl (by simp) hk
  simpa using this

theorem cvH_in {l : List S65} (h : ∀ x ∈ l, (Lit.int .i8 x.f0).wf = true ∧ (Lit.int .i8 x.f1).wf = true ∧ (Lit.int .i8 x.f2).wf = true) : ∀ x ∈ l.map cvH, In8 x := by
  intro x hx
  obtain ⟨y, hy, rfl⟩ := List.mem_map.1 hx
  exact ⟨i8_in (h y hy).1, i8_in (h y hy).2.1, i8_in (h y hy).2.2⟩

theorem eqHullS_l0 (l : List S59) (hl : l.length ≤ 1152921504606846976) : ∀ (rest : List S59) (p k : Nat), l.drop p = rest → rest.length < k → laws_eqHullS.l0 k l l (p : Int) = some true := by
  intro rest
  induction rest with
  | nil =>
    intro p k hd hk
    obtain ⟨k, rfl⟩ : ∃ m, k = m + 1 := ⟨k - 1, by simp at hk; omega⟩
    have := of_drop_nil hd
    simp only [laws_eqHullS.l0]
    rw [if_neg (by omega)]
  | cons x rest ih =>
    intro p k hd hk
    simp only [List.length_cons] at hk
    obtain ⟨k, rfl⟩ : ∃ m, k = m + 1 := ⟨k - 1, by omega⟩
    obtain ⟨hp, hd', hx⟩ := of_drop hd
    simp only [laws_eqHullS.l0, laws_eqHull.f, if_true, Option.bind_some]
    rw [if_pos (by omega), if_pos (by omega), if_pos (by omega), step64 hp hl]
    exact ih (p + 1) k hd' (by omega)

theorem eqHullS_is (l : List S59) (hl : l.length ≤ 1152921504606846976) (k : Nat) (hk : l.length < k) : laws_eqHullS.f k l l = some true := by
  unfold laws_eqHullS.f
  rw [if_pos rfl]
  exact eqHullS_l0 l hl l 0 k rfl hk

theorem szHullS_is (l : List S65) (a : Int) (hl : l.length ≤ 93824992236885) (h0 : 0 ≤ a) (h1 : a ≤ 1048576) : laws_szHullS.f l a = some (if a < l.length then -1 else a - l.length) := by
  unfold laws_szHullS.f
  rw [w64_id (by omega)]
  by_cases h : a < l.length
  · rw [if_pos (by omega), if_pos h]
  · rw [if_neg (by omega), if_neg h]

theorem l00In_is (a lo hi : Int) : spec_l00In.f a lo hi = some (decide (lo ≤ a ∧ a ≤ hi)) := by
  unfold spec_l00In.f
  repeat' split
  all_goals first | exact some_dec (by omega) | exact some_decF (by omega)

theorem vh_and (x : S59) : vh x = (decide (1 ≤ x.f0 ∧ x.f0 ≤ 40) && (decide (1 ≤ x.f1 ∧ x.f1 ≤ 100) && decide (1 ≤ x.f2 ∧ x.f2 ≤ 20))) := by
  unfold vh
  rw [← Bool.decide_and, ← Bool.decide_and]
  exact decide_eq_decide.2 (by omega)

theorem specValid_is (a b c : Int) (h : In8 ⟨a, b, c⟩) : spec_l04Hull.f a b c = some (vh ⟨a, b, c⟩) := by
  obtain ⟨h0, h1, h2⟩ := h
  simp only at h0 h1 h2
  unfold spec_l04Hull.f
  rw [w64_id (by omega), w64_id (by omega), w64_id (by omega), l00In_is, l00In_is, l00In_is, vh_and]
  simp only [Option.bind_some]
  cases decide (1 ≤ a ∧ a ≤ 40) <;> cases decide (1 ≤ b ∧ b ≤ 100) <;> rfl

theorem l04Asked_l0 (l : List S59) (hl : l.length ≤ 1152921504606846976) (h8 : ∀ x ∈ l, In8 x) : ∀ (rest : List S59) (p k : Nat), l.drop p = rest → rest.length < k →
    spec_l04Asked.l0 k l (p : Int) = some (if rest.all vh then (if l.length > 7 then 3 else 0) else 1) := by
  intro rest
  induction rest with
  | nil =>
    intro p k hd hk
    obtain ⟨k, rfl⟩ : ∃ m, k = m + 1 := ⟨k - 1, by simp at hk; omega⟩
    have := of_drop_nil hd
    simp only [spec_l04Asked.l0]
    rw [if_neg (by omega)]
    by_cases h : l.length > 7
    · rw [if_pos (by omega)]; simp [h]
    · rw [if_neg (by omega)]; simp [h]
  | cons x rest ih =>
    intro p k hd hk
    simp only [List.length_cons] at hk
    obtain ⟨k, rfl⟩ : ∃ m, k = m + 1 := ⟨k - 1, by omega⟩
    obtain ⟨hp, hd', hx⟩ := of_drop hd
    have hx8 : In8 x := h8 x (List.mem_of_mem_drop (by rw [hd]; exact List.mem_cons_self))
    simp only [spec_l04Asked.l0, rd_T59, hx, specValid_is _ _ _ hx8, Option.bind_some]
    rw [if_pos (by omega), if_pos (by omega), step64 hp hl, ih (p + 1) k hd' (by omega)]
    cases hv : vh x <;> simp [hv]

theorem l04Asked_is (l : List S59) (hl : l.length ≤ 1152921504606846976) (h8 : ∀ x ∈ l, In8 x) (k : Nat) (hk : l.length < k) : spec_l04Asked.f k l = some (codeH l) := by
  unfold spec_l04Asked.f codeH
  exact l04Asked_l0 l hl h8 l 0 k rfl hk

theorem wrongFrom_snoc (r : List S59) : ∀ (i : Int) (x y : S59), 0 ≤ i → (wrongFrom i x (r ++ [y]) < 0 ↔ wrongFrom i x r < 0 ∧ mayH ((x :: r).getLast (by simp)) y = true) := by
  induction r with
  | nil =>
    intro i x y h0
    simp only [List.nil_append, wrongFrom, List.getLast_singleton]
    split
    · rename_i h; simp [h]
    · rename_i h; simp [h]; omega
  | cons z r ih =>
    intro i x y h0
    simp only [List.cons_append, wrongFrom]
    by_cases h : mayH x z = true
    · rw [if_pos h, if_pos h, ih (i + 1) z y (by omega)]
      simp
    · rw [if_neg h, if_neg h]
      constructor
      · intro g; omega
      · intro g; omega

theorem deepH_append : ∀ (a b : List S59), deepH (a ++ b) = deepH a + deepH b
  | [], b => by simp [deepH]
  | x :: a, b => by simp only [List.cons_append, deepH, deepH_append a b]; omega
theorem wrongH_snoc_ok {a : List S59} {y : S59} (h : wrongH (a ++ [y]) < 0) : wrongH a < 0 := by
  cases a with
  | nil => simp [wrongH]
  | cons x r => exact ((wrongFrom_snoc r 1 x y (by omega)).1 h).1
theorem fitsH_snoc {l : List S59} {deep : Int} {r : List Int} {i k : Int} (hv : ∀ x ∈ l, vh x = true) (hl : r.length < l.length) (h : fitsH l deep (r ++ [i]) k = true) : fitsH l deep r k = true := by
  unfold fitsH at h ⊢
  rw [withH_snoc l r i k hl] at h
  by_cases e : i = k
  · rw [if_pos e, deepH_append] at h
    rw [Bool.and_eq_true, decide_eq_true_iff, decide_eq_true_iff] at h ⊢
    have := hv _ (List.getElem_mem hl)
    simp only [vh, decide_eq_true_eq] at this
    simp only [deepH] at h
    exact ⟨wrongH_snoc_ok h.1, by omega⟩
  · rw [if_neg e, List.append_nil] at h
    exact h
theorem fitsH_other {l : List S59} {deep : Int} {r : List Int} {i k : Int} (hl : r.length < l.length) (e : i ≠ k) : fitsH l deep (r ++ [i]) k = fitsH l deep r k := by
  unfold fitsH
  rw [withH_snoc l r i k hl, if_neg e, List.append_nil]
theorem areH_snoc (l : List S59) (deep : Int) (r : List Int) (i : Nat) (hv : ∀ x ∈ l, vh x = true) (hl : r.length < l.length) (hi : i < 7) : areH l deep (r ++ [(i : Int)]) = (areH l deep r && fitsH l deep (r ++ [(i : Int)]) (i : Int)) := by
  rw [Bool.eq_iff_iff, Bool.and_eq_true]
  unfold areH
  simp only [List.all_eq_true, List.mem_range]
  constructor
  · intro h
    exact ⟨fun k hk => fitsH_snoc hv hl (h k hk), h i hi⟩
  · intro ⟨h1, h2⟩ k hk
    by_cases e : (i : Int) = (k : Int)
    · have : i = k := by omega
      rw [← this]; exact h2
    · rw [fitsH_other hl e]; exact h1 k hk
/-- The reference's: what doesn't fit is left at once. -/
def allH (l : List S59) (deep : Int) : Nat → List Int → Nat → List (List Int × Int)
  | 0, now, many => [(now, (many : Int))]
  | d + 1, now, many => (List.range (many + 1)).flatMap fun (k : Nat) => if fitsH l deep (now ++ [(k : Int)]) (k : Int) then allH l deep d (now ++ [(k : Int)]) (max many (k + 1)) else []
theorem parts_all (l : List S59) (deep : Int) (hv : ∀ x ∈ l, vh x = true) (h7 : l.length ≤ 7) : ∀ (d : Nat) (now : List Int) (many : Nat), now.length + d = l.length → many ≤ now.length →
    (parts d now many).filter (fun q => areH l deep q.1) = if areH l deep now then allH l deep d now many else [] := by
  intro d
  induction d with
  | zero => intro now many _ _; simp only [parts, allH, List.filter_cons, List.filter_nil]
  | succ d ih =>
    intro now many hl hm
    simp only [parts, allH]
    rw [List.filter_flatMap]
    by_cases h : areH l deep now = true
    · rw [if_pos h]
      have key : ∀ k ∈ List.range (many + 1), (parts d (now ++ [(k : Int)]) (max many (k + 1))).filter (fun q => areH l deep q.1) = if fitsH l deep (now ++ [(k : Int)]) (k : Int) then allH l deep d (now ++ [(k : Int)]) (max many (k + 1)) else [] := by
        intro k hk
        have hk' : k ≤ many := by have := List.mem_range.1 hk; omega
        rw [ih (now ++ [(k : Int)]) (max many (k + 1)) (by simp; omega) (by simp; omega), areH_snoc l deep now k hv (by omega) (by omega), h, Bool.true_and]
      rw [List.flatMap_def, List.flatMap_def, List.map_congr_left key]
    · rw [if_neg h, List.flatMap_eq_nil_iff]
      intro k hk
      have hk' : k ≤ many := by have := List.mem_range.1 hk; omega
      rw [ih (now ++ [(k : Int)]) (max many (k + 1)) (by simp; omega) (by simp; omega), areH_snoc l deep now k hv (by omega) (by omega)]
      rw [if_neg (by simp [h])]
/-- How many rafts are told. -/
def countP (r : List Int) : Int := r.foldl (fun n x => mx n (x + 1)) 0
theorem parts_count : ∀ (d : Nat) (now : List Int) (many : Nat), countP now = many → ∀ q ∈ parts d now many, q.2 = countP q.1 := by
  intro d
  induction d with
  | zero =>
    intro now many h q hq
    simp only [parts, List.mem_singleton] at hq
    rw [hq, h]
  | succ d ih =>
    intro now many h q hq
    simp only [parts, List.mem_flatMap, List.mem_range] at hq
    obtain ⟨k, hk, hq⟩ := hq
    refine ih (now ++ [(k : Int)]) (max many (k + 1)) ?_ q hq
    unfold countP at h ⊢
    rw [List.foldl_append, h]
    show mx (many : Int) ((k : Int) + 1) = _
    unfold mx
    split <;> omega
theorem parts_in : ∀ (d : Nat) (now : List Int) (many : Nat), (∀ x ∈ now, 0 ≤ x ∧ x < (now.length : Int)) → many ≤ now.length → ∀ q ∈ parts d now many, q.1.length = now.length + d ∧ ∀ x ∈ q.1, 0 ≤ x ∧ x < ((now.length + d : Nat) : Int) := by
  intro d
  induction d with
  | zero =>
    intro now many h hm q hq
    simp only [parts, List.mem_singleton] at hq
    rw [hq]
    exact ⟨rfl, h⟩
  | succ d ih =>
    intro now many h hm q hq
    simp only [parts, List.mem_flatMap, List.mem_range] at hq
    obtain ⟨k, hk, hq⟩ := hq
    have := ih (now ++ [(k : Int)]) (max many (k + 1)) (fun x hx => by
      rw [List.length_append, List.length_singleton]
      rcases List.mem_append.1 hx with hx | hx
      · have := h x hx; omega
      · rw [List.mem_singleton.1 hx]; omega) (by simp; omega) q hq
    rw [List.length_append, List.length_singleton] at this
    rw [show now.length + (d + 1) = now.length + 1 + d by omega]
    exact this

theorem with_l0 (l : List S59) (r : List Int) (a : Int) (hl : r.length ≤ l.length) (hb : r.length ≤ 1048576) : ∀ (rest : List Int) (p k : Nat), r.drop p = rest → rest.length < k → spec_l04With.l0 k l r a (withH l (r.take p) a) (p : Int) = some (withH l r a) := by
  intro rest
  induction rest with
  | nil =>
    intro p k hd hk
    obtain ⟨k, rfl⟩ : ∃ m, k = m + 1 := ⟨k - 1, by simp at hk; omega⟩
    have := of_drop_nil hd
    simp only [spec_l04With.l0]
    rw [if_neg (by omega), List.take_of_length_le (by omega)]
  | cons x rest ih =>
    intro p k hd hk
    simp only [List.length_cons] at hk
    obtain ⟨k, rfl⟩ : ∃ m, k = m + 1 := ⟨k - 1, by omega⟩
    obtain ⟨hp, hd', hx⟩ := of_drop hd
    have hy : r[p] = x := by
      have := hx 0
      rw [Int.toNat_natCast, List.getD_eq_getElem?_getD, List.getElem?_eq_getElem hp] at this
      exact this
    have hlt : (r.take p).length = p := by rw [List.length_take]; omega
    have hw := withH_length l (r.take p) a
    rw [hlt] at hw
    have hrd : rd_T59 l (p : Int) = l[p] := by rw [rd_T59, Int.toNat_natCast, List.getD_eq_getElem?_getD, List.getElem?_eq_getElem (by omega)]; rfl
    have hs := withH_snoc l (r.take p) x a (by omega)
    have I := ih (p + 1) k hd' (by omega)
    rw [List.take_succ_eq_append_getElem hp, hy, hs] at I
    simp only [hlt] at I
    simp only [spec_l04With.l0, rd, hx, hrd]
    rw [if_pos (by omega), if_pos (by omega), step64 hp (by omega)]
    by_cases e : x = a
    · rw [if_pos e, if_pos (by omega), if_pos (by omega)]
      rw [if_pos e] at I
      exact I
    · rw [if_neg e]
      rw [if_neg e, List.append_nil] at I
      exact I
theorem with_is (l : List S59) (r : List Int) (a : Int) (hl : r.length ≤ l.length) (hb : r.length ≤ 1048576) (k : Nat) (hk : r.length < k) : spec_l04With.f k l r a = some (withH l r a) := by
  unfold spec_l04With.f
  have := with_l0 l r a hl hb r 0 k rfl hk
  simpa [withH] using this

theorem l00Own_is (l : List Int) (hl : l.length < 17592186044416) : spec_l00Own.f l = some l := by
  unfold spec_l00Own.f
  simp only [Option.bind_some, List.length_nil, List.nil_append]
  rw [if_pos (by omega)]

theorem max_mx (a b : Int) : spec_l00Max.f a b = some (mx a b) := by
  unfold spec_l00Max.f mx
  repeat' split
  all_goals first | rfl | (simp only [Option.some.injEq]; omega)

theorem specQuay_l1 (l : List S59) (r : List Int) (s n : Int) (xs : List S59) (hb : xs.length ≤ 1048576) (hv : ∀ x ∈ xs, vh x = true) (K : Nat) : ∀ (d p k : Nat), p + d = xs.length → d < k → K + d + 1 ≤ k → spec_l04Quay.l1 k l r s n xs (longH (xs.take p)) (p : Int) = spec_l04Quay.l0 (k - d - 1) l r (wrap64 (s + longH xs)) (wrap64 (n + 1)) := by
  intro d
  induction d with
  | zero =>
    intro p k hd hk hK
    obtain ⟨k, rfl⟩ : ∃ m, k = m + 1 := ⟨k - 1, by omega⟩
    simp only [spec_l04Quay.l1]
    rw [if_neg (by omega), List.take_of_length_le (by omega)]
    rfl
  | succ d ih =>
    intro p k hd hk hK
    obtain ⟨k, rfl⟩ : ∃ m, k = m + 1 := ⟨k - 1, by omega⟩
    have hp : p < xs.length := by omega
    have hrd : rd_T59 xs (p : Int) = xs[p] := by rw [rd_T59, Int.toNat_natCast, List.getD_eq_getElem?_getD, List.getElem?_eq_getElem hp]; rfl
    have I := ih (p + 1) k (by omega) (by omega) (by omega)
    rw [List.take_succ_eq_append_getElem hp, longH_snoc] at I
    have h8 := hv xs[p] (List.getElem_mem hp)
    simp only [vh, decide_eq_true_eq] at h8
    simp only [spec_l04Quay.l1, hrd]
    rw [if_pos (by omega), if_pos (by omega), max_mx, step64 hp (by omega), w64_id (a := xs[p].f1) (by omega)]
    simp only [Option.bind_some]
    rw [I]
    congr 1
    omega
theorem specQuay_l0 (l : List S59) (r : List Int) (hl : r.length ≤ l.length) (hb : r.length ≤ 1048576) (hv : ∀ x ∈ l, vh x = true) : ∀ (d n k : Nat), n + d = 7 → d * (r.length + 2) < k → r.length + 2 < k → spec_l04Quay.l0 k l r (quayTo l r n) (n : Int) = some (quayTo l r 7) := by
  intro d
  induction d with
  | zero =>
    intro n k hd hk hk2
    obtain ⟨k, rfl⟩ : ∃ m, k = m + 1 := ⟨k - 1, by omega⟩
    have : n = 7 := by omega
    subst this
    simp only [spec_l04Quay.l0]
    rw [if_neg (by omega)]
  | succ d ih =>
    intro n k hd hk hk2
    rw [Nat.succ_mul] at hk
    generalize hZ : d * (r.length + 2) = Z at hk
    obtain ⟨k, rfl⟩ : ∃ m, k = m + 1 := ⟨k - 1, by omega⟩
    have hw := withH_length l r (n : Int)
    have hx := longH_in (xs := withH l r (n : Int)) (fun y hy => hv y (withH_sub hy))
    have hq := quayTo_in (l := l) (r := r) hv n
    simp only [spec_l04Quay.l0]
    rw [if_pos (by omega), with_is l r n hl hb k (by omega)]
    simp only [Option.bind_some]
    have e := specQuay_l1 l r (quayTo l r n) n (withH l r n) (by omega) (fun y hy => hv y (withH_sub hy)) 0 (withH l r n).length 0 k (by simp) (by omega) (by omega)
    have e' : spec_l04Quay.l1 k l r (quayTo l r n) n (withH l r n) 0 0 = _ := e
    rw [e', w64_id (by omega), w64_id (by omega)]
    have I := fun k' h1 h2 => ih (n + 1) k' (by omega) h1 h2
    simp only [quayTo] at I
    have ec : ((n + 1 : Nat) : Int) = (n : Int) + 1 := by omega
    rw [ec] at I
    by_cases hd0 : d = 0
    · subst hd0
      have hn : n = 6 := by omega
      subst hn
      obtain ⟨m, hm⟩ : ∃ m, k - (withH l r ((6 : Nat) : Int)).length - 1 = m + 1 := ⟨k - (withH l r ((6 : Nat) : Int)).length - 2, by omega⟩
      rw [hm]
      simp only [spec_l04Quay.l0]
      rw [if_neg (by omega)]
      rfl
    · refine I _ (by rw [hZ]; omega) ?_
      have : 1 * (r.length + 2) ≤ d * (r.length + 2) := Nat.mul_le_mul_right _ (by omega)
      omega
theorem specQuay_is (l : List S59) (r : List Int) (hl : r.length ≤ l.length) (hb : r.length ≤ 1048576) (hv : ∀ x ∈ l, vh x = true) (k : Nat) (hk : 7 * (r.length + 2) < k) : spec_l04Quay.f k l r = some (quayTo l r 7) := by
  unfold spec_l04Quay.f
  exact specQuay_l0 l r hl hb hv 7 0 k rfl hk (by omega)

theorem l04Deep_l0 (l : List S59) (hl : l.length ≤ 93824992236885) (h8 : ∀ x ∈ l, In8 x) : ∀ (rest : List S59) (p k : Nat) (a : Int), l.drop p = rest → rest.length < k → -128 * (p : Int) ≤ a → a ≤ 128 * (p : Int) →
    spec_l04Deep.l0 k l a (p : Int) = some (a + deepH rest) := by
  intro rest
  induction rest with
  | nil =>
    intro p k a hd hk ha0 ha1
    obtain ⟨k, rfl⟩ : ∃ m, k = m + 1 := ⟨k - 1, by simp at hk; omega⟩
    have := of_drop_nil hd
    simp only [spec_l04Deep.l0]
    rw [if_neg (by omega)]
    simp [deepH]
  | cons x rest ih =>
    intro p k a hd hk ha0 ha1
    simp only [List.length_cons] at hk
    obtain ⟨k, rfl⟩ : ∃ m, k = m + 1 := ⟨k - 1, by omega⟩
    obtain ⟨hp, hd', hx⟩ := of_drop hd
    have hx8 : In8 x := h8 x (List.mem_of_mem_drop (by rw [hd]; exact List.mem_cons_self))
    have h0 := hx8.1
    simp only [spec_l04Deep.l0, rd_T59, hx]
    rw [if_pos (by omega), if_pos (by omega), step64 hp (by omega), w64_id (a := x.f0) (by omega), w64_id (a := x.f0 + 1) (by omega), w64_id (by omega), ih (p + 1) k _ hd' (by omega) (by omega) (by omega)]
    simp only [deepH]
    congr 1
    omega

theorem l04Deep_is (l : List S59) (hl : l.length ≤ 93824992236885) (h8 : ∀ x ∈ l, In8 x) (k : Nat) (hk : l.length < k) : spec_l04Deep.f k l = some (deepH l) := by
  unfold spec_l04Deep.f
  have := l04Deep_l0 l hl h8 l 0 k 0 rfl hk (by simp) (by simp)
  simpa using this

theorem specMay_is (x y : S59) (hx : In8 x) (hy : In8 y) : spec_l04May.f x.f0 x.f1 x.f2 y.f0 y.f1 y.f2 = some (mayH x y) := by
  obtain ⟨_, x1, x2⟩ := hx
  obtain ⟨_, y1, y2⟩ := hy
  unfold spec_l04May.f mayH
  rw [w64_id (a := x.f2) (by omega), w64_id (a := y.f2) (by omega), w64_id (a := x.f1) (by omega), w64_id (a := y.f1) (by omega), w64_id (by omega), w64_id (by omega)]
  repeat' split
  all_goals first | exact some_dec (by omega) | exact some_decF (by omega)

theorem l04Wrong_l0 (l : List S59) (hl : l.length ≤ 1152921504606846976) (hv : ∀ x ∈ l, In8 x) : ∀ (rest : List S59) (x : S59) (p k : Nat), l.drop p = x :: rest → rest.length < k →
    spec_l04Wrong.l0 k l ((p + 1 : Nat) : Int) = some (wrongFrom ((p + 1 : Nat) : Int) x rest) := by
  intro rest
  induction rest with
  | nil =>
    intro x p k hd hk
    obtain ⟨k, rfl⟩ : ∃ m, k = m + 1 := ⟨k - 1, by simp at hk; omega⟩
    obtain ⟨hp, hd', hx⟩ := of_drop hd
    have := of_drop_nil hd'
    simp only [spec_l04Wrong.l0, wrongFrom]
    rw [if_neg (by omega)]
  | cons y rest ih =>
    intro x p k hd hk
    simp only [List.length_cons] at hk
    obtain ⟨k, rfl⟩ : ∃ m, k = m + 1 := ⟨k - 1, by omega⟩
    obtain ⟨hp, hd', hx⟩ := of_drop hd
    obtain ⟨hp', hd'', hy⟩ := of_drop hd'
    have vx := hv x (List.mem_of_mem_drop (by rw [hd]; exact List.mem_cons_self))
    have vy := hv y (List.mem_of_mem_drop (by rw [hd']; exact List.mem_cons_self))
    have e1 : wrap64 (((p + 1 : Nat) : Int) - 1) = (p : Int) := by rw [w64_id (by omega)]; omega
    simp only [spec_l04Wrong.l0, e1, rd_T59, hx, hy, specMay_is x y vx vy, Option.bind_some, wrongFrom]
    rw [if_pos (by omega), if_pos (by omega), if_pos (by omega), if_pos (by omega), step64 hp' hl]
    rw [ih y (p + 1) k hd' (by omega)]
    cases mayH x y <;> simp [w64_id] <;> rfl

theorem l04Wrong_is (l : List S59) (hl : l.length ≤ 1152921504606846976) (hv : ∀ x ∈ l, In8 x) (k : Nat) (hk : l.length < k) : spec_l04Wrong.f k l = some (wrongH l) := by
  unfold spec_l04Wrong.f
  cases l with
  | nil =>
    obtain ⟨k, rfl⟩ : ∃ m, k = m + 1 := ⟨k - 1, by simp at hk; omega⟩
    simp only [spec_l04Wrong.l0]
    rw [if_neg (by simp)]
    rfl
  | cons x r =>
    have := l04Wrong_l0 (x :: r) hl hv r x 0 k rfl (by simp at hk; omega)
    simpa [wrongH] using this

theorem withH_nil {l : List S59} {r : List Int} {k : Int} (h : k ∉ r) : withH l r k = [] := by
  unfold withH
  rw [List.map_eq_nil_iff, List.filter_eq_nil_iff]
  intro q hq e
  exact h (beq_iff_eq.1 e ▸ (List.of_mem_zip hq).2)
theorem areH_all (l : List S59) (deep : Int) (r : List Int) (hd : 0 ≤ deep) (hr : ∀ x ∈ r, 0 ≤ x ∧ x < 7) : areH l deep r = r.all (fun x => fitsH l deep r x) := by
  rw [Bool.eq_iff_iff]
  unfold areH
  simp only [List.all_eq_true, List.mem_range]
  constructor
  · intro h x hx
    have := hr x hx
    have h2 := h x.toNat (by omega)
    rw [show ((x.toNat : Nat) : Int) = x by omega] at h2
    exact h2
  · intro h k hk
    by_cases e : (k : Int) ∈ r
    · exact h _ e
    · unfold fitsH
      rw [withH_nil e, decide_eq_true (by simp [wrongH]), decide_eq_true (by simp [deepH]; omega)]
      rfl
theorem fits_is (xs : List S59) (deep : Int) (hl : xs.length ≤ 1048576) (hv : ∀ x ∈ xs, vh x = true) (k : Nat) (hk : xs.length < k) : spec_l04Fits.f k xs deep = some (decide (wrongH xs < 0) && decide (deepH xs ≤ deep)) := by
  unfold spec_l04Fits.f
  rw [l04Wrong_is xs (by omega) (fun x hx => vh_in8 (hv x hx)) k hk]
  simp only [Option.bind_some]
  by_cases h : wrongH xs < 0
  · rw [if_pos h, l04Deep_is xs (by omega) (fun x hx => vh_in8 (hv x hx)) k hk, decide_eq_true h]; rfl
  · rw [if_neg h, decide_eq_false h]; rfl
theorem room_is (l : List S59) (deep : Int) (hl : l.length ≤ 1048576) (h8 : ∀ x ∈ l, In8 x) (k : Nat) (hk : l.length < k) : spec_l04Room.f k l deep = some (deepC l deep) := by
  unfold spec_l04Room.f deepC
  rw [l04Asked_is l (by omega) h8 k hk]
  simp only [Option.bind_some]
  by_cases hc : codeH l = 0
  · rw [if_pos hc, if_pos hc]
    unfold spec_l00In.f
    by_cases h1 : deep ≥ 1
    · rw [if_pos h1]
      simp only [Option.bind_some]
      by_cases h2 : deep ≤ 400
      · rw [decide_eq_true h2, if_pos rfl, if_pos ⟨by omega, h2⟩, hc]
      · rw [decide_eq_false h2, if_neg (by simp), if_neg (fun g => h2 g.2)]
    · rw [if_neg h1]
      simp only [Option.bind_some]
      rw [if_neg (by simp), if_neg (fun g => h1 g.1)]
  · rw [if_neg hc, if_neg hc]

/-- The first of those that cost least. -/
def bestL (cost : List Int → Int) : List Int × Int → List (List Int) → List Int × Int
  | s, [] => s
  | s, o :: os => bestL cost (if s.2 < 0 ∨ cost o < s.2 then (o, cost o) else s) os
theorem run_best (l : List S59) (deep : Int) (cost : List Int → Int → Int) (cost' : List Int → Int) : ∀ (qs : List (List Int × Int)) (s : List Int × Int), (∀ q ∈ qs, cost q.1 q.2 = cost' q.1) → runP (bestSt l deep cost) s qs = bestL cost' s ((qs.filter (fun q => areH l deep q.1)).map (fun q => q.1))
  | [], s, _ => rfl
  | q :: qs, s, h => by
    have ih := fun s => run_best l deep cost cost' qs s (fun q' hq => h q' (List.mem_cons_of_mem _ hq))
    have hq := h q List.mem_cons_self
    have e : runP (bestSt l deep cost) s (q :: qs) = runP (bestSt l deep cost) (bestSt l deep cost s q.1 q.2) qs := rfl
    rw [e, ih]
    unfold bestSt
    rw [List.filter_cons]
    by_cases ha : areH l deep q.1 = true
    · rw [if_pos ha, if_pos ha, List.map_cons, hq]
      rfl
    · rw [if_neg ha, if_neg ha]
theorem bestL_nn (cost : List Int → Int) (hc : ∀ o, 0 ≤ cost o) : ∀ (os : List (List Int)) (s : List Int × Int), (0 ≤ s.2 ∨ os ≠ []) → 0 ≤ (bestL cost s os).2
  | [], s, h => by rcases h with h | h; exact h; exact absurd rfl h
  | o :: os, s, _ => by
    refine bestL_nn cost hc os _ (.inl ?_)
    have := hc o
    split
    · exact this
    · omega
theorem bestL_len (cost : List Int → Int) (n : Nat) : ∀ (os : List (List Int)) (s : List Int × Int), s.1.length ≤ n → (∀ o ∈ os, o.length ≤ n) → (bestL cost s os).1.length ≤ n
  | [], s, h, _ => h
  | o :: os, s, h, ho => by
    refine bestL_len cost n os _ ?_ (fun o' h' => ho o' (List.mem_cons_of_mem _ h'))
    split
    · exact ho o List.mem_cons_self
    · exact h
theorem deepH_mem : ∀ {xs : List S59} {x : S59}, (∀ y ∈ xs, vh y = true) → x ∈ xs → x.f0 + 1 ≤ deepH xs
  | y :: xs, x, hv, hx => by
    have h0 : 0 ≤ deepH xs := by
      have key : ∀ (zs : List S59), (∀ y ∈ zs, vh y = true) → 0 ≤ deepH zs := by
        intro zs
        induction zs with
        | nil => intro _; simp [deepH]
        | cons z zs ih =>
          intro h
          have h1 := ih (fun y hy => h y (List.mem_cons_of_mem _ hy))
          have h2 := h z List.mem_cons_self
          simp only [vh, decide_eq_true_eq] at h2
          simp only [deepH]
          omega
      exact key xs (fun y hy => hv y (List.mem_cons_of_mem _ hy))
    have hy := hv y List.mem_cons_self
    simp only [vh, decide_eq_true_eq] at hy
    simp only [deepH]
    rcases List.mem_cons.1 hx with rfl | hx
    · omega
    · have := deepH_mem (fun z hz => hv z (List.mem_cons_of_mem _ hz)) hx
      omega
theorem withH_mem {l : List S59} {r : List Int} {i : Nat} (hi : i < l.length) (hr : i < r.length) : l[i] ∈ withH l r r[i] := by
  unfold withH
  refine List.mem_map.2 ⟨(l[i], r[i]), List.mem_filter.2 ⟨?_, beq_self_eq_true _⟩, rfl⟩
  have : (l.zip r)[i]? = some (l[i], r[i]) := by
    rw [List.getElem?_zip_eq_some]
    exact ⟨List.getElem?_eq_getElem hi, List.getElem?_eq_getElem hr⟩
  exact List.mem_of_getElem? this
def tooDeep (l : List S59) (deep : Int) : Bool := l.any fun x => decide (x.f0 + 1 > deep)
theorem all_none {l : List S59} {deep : Int} (hv : ∀ x ∈ l, vh x = true) (h7 : l.length ≤ 7) (ht : tooDeep l deep = true) : (parts l.length [] 0).filter (fun q => areH l deep q.1) = [] := by
  rw [List.filter_eq_nil_iff]
  intro q hq ha
  obtain ⟨h1, h2⟩ := parts_in l.length [] 0 (by simp) (by simp) q hq
  unfold tooDeep at ht
  rw [List.any_eq_true] at ht
  obtain ⟨x, hx, hd⟩ := ht
  obtain ⟨i, hi, rfl⟩ := List.getElem_of_mem hx
  have hd := of_decide_eq_true hd
  have hi2 : i < q.1.length := by rw [h1]; simpa using hi
  have hk := h2 _ (List.getElem_mem hi2)
  have hf := List.all_eq_true.1 ha (q.1[i]).toNat (List.mem_range.2 (by simp at hk; omega))
  rw [show (((q.1[i]).toNat : Nat) : Int) = q.1[i] by omega] at hf
  unfold fitsH at hf
  rw [Bool.and_eq_true, decide_eq_true_iff, decide_eq_true_iff] at hf
  have := deepH_mem (fun y hy => hv y (withH_sub hy)) (withH_mem hi hi2)
  omega
theorem all_some {l : List S59} {deep : Int} (ht : tooDeep l deep = false) : ∀ (d : Nat) (now : List Int) (many : Nat), now.length + d = l.length → (∀ x ∈ now, x < (many : Int)) → allH l deep d now many ≠ [] := by
  intro d
  induction d with
  | zero => intro now many _ _; simp [allH]
  | succ d ih =>
    intro now many hl hn
    have hlt : now.length < l.length := by omega
    have hnot : (many : Int) ∉ now := fun h => by have := hn _ h; omega
    have hw : withH l (now ++ [(many : Int)]) many = [l[now.length]] := by
      rw [withH_snoc l now many many hlt, withH_nil hnot, if_pos rfl]; rfl
    have hx : ¬ l[now.length].f0 + 1 > deep := fun h => by
      have : tooDeep l deep = true := List.any_eq_true.2 ⟨_, List.getElem_mem hlt, decide_eq_true h⟩
      rw [ht] at this
      cases this
    have hf : fitsH l deep (now ++ [(many : Int)]) many = true := by
      unfold fitsH
      rw [hw, decide_eq_true (by simp [wrongH, wrongFrom]), decide_eq_true (by simp [deepH]; omega)]
      rfl
    have hi := ih (now ++ [(many : Int)]) (max many (many + 1)) (by simp; omega) (fun x hx => by
      rcases List.mem_append.1 hx with hx | hx
      · have := hn x hx; omega
      · rw [List.mem_singleton.1 hx]; omega)
    obtain ⟨y, ys, hy⟩ := List.exists_cons_of_ne_nil hi
    intro hnil
    simp only [allH] at hnil
    have := List.flatMap_eq_nil_iff.1 hnil many (List.mem_range.2 (by omega))
    rw [if_pos hf] at this
    exact hi this
theorem allH_length (l : List S59) (deep : Int) (h7 : l.length ≤ 7) : ∀ (d : Nat) (now : List Int) (many : Nat), now.length + d = l.length → many ≤ now.length → (allH l deep d now many).length ≤ 7 ^ d := by
  intro d
  induction d with
  | zero => intro now many _ _; simp [allH]
  | succ d ih =>
    intro now many hl hm
    simp only [allH, List.length_flatMap]
    have : ∀ (xs : List Nat), (∀ x ∈ xs, x ≤ many) → (List.map (fun (k : Nat) => (if fitsH l deep (now ++ [(k : Int)]) (k : Int) = true then allH l deep d (now ++ [(k : Int)]) (max many (k + 1)) else []).length) xs).sum ≤ xs.length * 7 ^ d := by
      intro xs
      induction xs with
      | nil => intro _; simp
      | cons x xs ihx =>
        intro h
        simp only [List.map_cons, List.sum_cons, List.length_cons, Nat.succ_mul]
        have h1 := ihx (fun y hy => h y (List.mem_cons_of_mem _ hy))
        have h2 := h x List.mem_cons_self
        have : (if fitsH l deep (now ++ [(x : Int)]) (x : Int) = true then allH l deep d (now ++ [(x : Int)]) (max many (x + 1)) else []).length ≤ 7 ^ d := by
          split
          · exact ih _ _ (by simp; omega) (by simp; omega)
          · simp
        omega
    have h1 := this (List.range (many + 1)) (fun x hx => by have := List.mem_range.1 hx; omega)
    rw [List.length_range] at h1
    have h2 : (many + 1) * 7 ^ d ≤ 7 * 7 ^ d := Nat.mul_le_mul_right _ (by omega)
    rw [Nat.pow_succ, Nat.mul_comm (7 ^ d) 7]
    omega
theorem l04All_is (l : List S59) (deep : Int) (hv : ∀ x ∈ l, vh x = true) (h7 : l.length ≤ 7) : ∀ (d : Nat) (now : List Int) (many k : Nat), now.length + d = l.length → many ≤ now.length → 12 * d + 30 < k → spec_l04All.f k l deep now (many : Int) = some ((allH l deep d now many).map (fun q => q.1)) := by
  intro d
  induction d with
  | zero =>
    intro now many k hl hm hk
    obtain ⟨k, rfl⟩ : ∃ m, k = m + 1 := ⟨k - 1, by omega⟩
    simp only [spec_l04All.f]
    rw [if_pos (by omega), l00Own_is now (by omega)]
    rfl
  | succ d ih =>
    intro now many k hl hm hk
    have hsl0 := fun (i : Nat) (hi : i ≤ many) => allH_length l deep h7 d (now ++ [(i : Int)]) (max many (i + 1)) (by simp; omega) (by simp; omega)
    have hpow : 7 ^ d ≤ 117649 := Nat.le_trans (Nat.pow_le_pow_right (by omega) (show d ≤ 6 by omega)) (by decide)
    generalize 7 ^ d = P at hsl0 hpow
    have loop : ∀ (m i k : Nat) (acc : List (List Int)), i + m = many + 1 → m + 12 * d + 34 < k → acc.length ≤ i * P →
        spec_l04All.l0 k l deep now (many : Int) acc (i : Int) = some (acc ++ (((List.range (many + 1)).drop i).flatMap fun (i : Nat) => if fitsH l deep (now ++ [(i : Int)]) (i : Int) = true then allH l deep d (now ++ [(i : Int)]) (max many (i + 1)) else []).map (fun q => q.1)) := by
      intro m
      induction m with
      | zero =>
        intro i k acc hi hk ha
        obtain ⟨k, rfl⟩ : ∃ m, k = m + 1 := ⟨k - 1, by omega⟩
        simp only [spec_l04All.l0]
        rw [if_neg (by omega), List.drop_eq_nil_of_le (by simp; omega)]
        simp
      | succ m ihm =>
        intro i k acc hi hk ha
        obtain ⟨k, rfl⟩ : ∃ m, k = m + 1 := ⟨k - 1, by omega⟩
        have hacc : acc.length ≤ 823543 := Nat.le_trans ha (Nat.le_trans (Nat.mul_le_mul (show i ≤ 7 by omega) hpow) (by decide))
        have hstep : ∀ s : List (List Int), s.length ≤ P → (acc ++ s).length ≤ (i + 1) * P := by
          intro s hs
          rw [List.length_append, Nat.succ_mul]
          exact Nat.add_le_add ha hs
        have hskip : acc.length ≤ (i + 1) * P := by
          rw [Nat.succ_mul]
          exact Nat.le_trans ha (Nat.le_add_right _ _)
        clear ha
        rw [List.drop_eq_getElem_cons (by simp; omega), List.flatMap_cons]
        simp only [List.getElem_range, spec_l04All.l0]
        have step : True → wrap64 ((i : Int) + 1) = ((i + 1 : Nat) : Int) := fun _ => step64 (show i < 8 by omega) (by omega)
        have hlen : (now ++ [(i : Int)]).length = now.length + 1 := by simp
        have hwl := withH_length l (now ++ [(i : Int)]) i
        rw [if_pos (by omega), l00Own_is now (by omega)]
        simp only [Option.bind_some]
        rw [if_pos (by omega), with_is l (now ++ [(i : Int)]) i (by omega) (by omega) k (by omega)]
        simp only [Option.bind_some]
        rw [fits_is _ deep (by omega) (fun y hy => hv y (withH_sub hy)) k (by omega)]
        simp only [Option.bind_some]
        have e : fitsH l deep (now ++ [(i : Int)]) (i : Int) = (decide (wrongH (withH l (now ++ [(i : Int)]) i) < 0) && decide (deepH (withH l (now ++ [(i : Int)]) i) ≤ deep)) := rfl
        rw [← e, step trivial]
        cases hf : fitsH l deep (now ++ [(i : Int)]) (i : Int) with
        | true =>
          have hs := hsl0 i (by omega)
          have em : mx (many : Int) ((i + 1 : Nat) : Int) = ((max many (i + 1) : Nat) : Int) := by unfold mx; split <;> omega
          rw [if_pos rfl, if_pos rfl, max_mx, em]
          simp only [Option.bind_some]
          rw [ih (now ++ [(i : Int)]) (max many (i + 1)) k (by simp; omega) (by simp; omega) (by omega)]
          simp only [Option.bind_some, List.length_map]
          rw [if_pos (by omega), ihm (i + 1) k _ (by omega) (by omega) (hstep _ (by simpa using hs))]
          simp
        | false =>
          rw [if_neg (by simp), if_neg (by simp), ihm (i + 1) k acc (by omega) (by omega) hskip]
          simp
    obtain ⟨k, rfl⟩ : ∃ m, k = m + 1 := ⟨k - 1, by omega⟩
    simp only [spec_l04All.f]
    rw [if_neg (by omega)]
    have := loop (many + 1) 0 k [] (by omega) (by omega) (by simp)
    simpa [allH] using this
theorem count_l0 (o : List Int) (ho : o.length ≤ 1048576) (h8 : ∀ x ∈ o, 0 ≤ x ∧ x < 8) : ∀ (rest : List Int) (p k : Nat) (n : Int), o.drop p = rest → rest.length < k → spec_l04Count.l0 k o n (p : Int) = some (rest.foldl (fun n x => mx n (x + 1)) n) := by
  intro rest
  induction rest with
  | nil =>
    intro p k n hd hk
    obtain ⟨k, rfl⟩ : ∃ m, k = m + 1 := ⟨k - 1, by simp at hk; omega⟩
    have := of_drop_nil hd
    simp only [spec_l04Count.l0]
    rw [if_neg (by omega)]
    rfl
  | cons x rest ih =>
    intro p k n hd hk
    simp only [List.length_cons] at hk
    obtain ⟨k, rfl⟩ : ∃ m, k = m + 1 := ⟨k - 1, by omega⟩
    obtain ⟨hp, hd', hx⟩ := of_drop hd
    have h := h8 x (List.mem_of_mem_drop (by rw [hd]; exact List.mem_cons_self))
    simp only [spec_l04Count.l0, rd, hx]
    rw [if_pos (by omega), if_pos (by omega), w64_id (a := x + 1) (by omega), max_mx, step64 hp (by omega)]
    simp only [Option.bind_some]
    rw [ih (p + 1) k _ hd' (by omega)]
    rfl
theorem count_is (o : List Int) (ho : o.length ≤ 1048576) (h8 : ∀ x ∈ o, 0 ≤ x ∧ x < 8) (k : Nat) (hk : o.length < k) : spec_l04Count.f k o = some (countP o) := by
  unfold spec_l04Count.f
  exact count_l0 o ho h8 o 0 k 0 rfl hk
theorem countP_nn (o : List Int) : 0 ≤ countP o := by
  have key : ∀ (o : List Int) (n : Int), 0 ≤ n → 0 ≤ o.foldl (fun n x => mx n (x + 1)) n := by
    intro o
    induction o with
    | nil => intro n h; exact h
    | cons x o ih =>
      intro n h
      refine ih _ ?_
      show 0 ≤ mx n (x + 1)
      unfold mx
      split <;> omega
  exact key o 0 (by omega)

def costB (l : List S59) (quay : Bool) (o : List Int) : Int := if quay = true then quayTo l o 7 else countP o
theorem costB_nn (l : List S59) (hv : ∀ x ∈ l, vh x = true) (quay : Bool) (o : List Int) : 0 ≤ costB l quay o := by
  unfold costB
  split
  · exact (quayTo_in hv 7).1
  · exact countP_nn o
theorem specBest_l1 (l : List S59) (quay : Bool) (hv : ∀ x ∈ l, vh x = true) (h7 : l.length ≤ 7) (all : List (List Int)) (ha : all.length ≤ 1048576) (hin : ∀ o ∈ all, o.length = l.length ∧ ∀ x ∈ o, 0 ≤ x ∧ x < 8) : ∀ (rest : List (List Int)) (p k : Nat) (s : List Int × Int), all.drop p = rest → rest.length + 100 < k →
    spec_l04Best.l1 k l quay s.1 s.2 all (p : Int) = some ((bestL (costB l quay) s rest).1, (bestL (costB l quay) s rest).2, 0) := by
  intro rest
  induction rest with
  | nil =>
    intro p k s hd hk
    obtain ⟨k, rfl⟩ : ∃ m, k = m + 1 := ⟨k - 1, by omega⟩
    have := of_drop_nil hd
    simp only [spec_l04Best.l1]
    rw [if_neg (by omega)]
    rfl
  | cons o rest ih =>
    intro p k s hd hk
    simp only [List.length_cons] at hk
    obtain ⟨k, rfl⟩ : ∃ m, k = m + 1 := ⟨k - 1, by omega⟩
    obtain ⟨hp, hd', hx⟩ := of_drop hd
    have ho := hin o (List.mem_of_mem_drop (by rw [hd]; exact List.mem_cons_self))
    have hrd : ∀ i : Int, i = (p : Int) → rd_L4 all i = o := fun i hi => by rw [hi]; exact hx _
    simp only [spec_l04Best.l1, hrd (p : Int) rfl]
    rw [if_pos (by omega), if_pos (by omega), count_is o (by omega) ho.2 k (by omega), step64 hp (by omega)]
    simp only [Option.bind_some, bestL]
    cases quay with
    | true =>
      rw [if_pos rfl, specQuay_is l o (by omega) (by omega) hv k (by rw [ho.1]; omega)]
      simp only [Option.bind_some]
      have e : costB l true o = quayTo l o 7 := if_pos rfl
      rw [← e]
      by_cases h1 : s.2 < 0
      · rw [if_pos h1, if_pos (.inl h1)]
        exact ih (p + 1) k (o, costB l true o) hd' (by omega)
      · rw [if_neg h1]
        by_cases h2 : costB l true o < s.2
        · rw [if_pos h2, if_pos (.inr h2)]
          exact ih (p + 1) k (o, costB l true o) hd' (by omega)
        · rw [if_neg h2, if_neg (by omega)]
          exact ih (p + 1) k s hd' (by omega)
    | false =>
      rw [if_neg (by simp)]
      have e : costB l false o = countP o := if_neg (by simp)
      rw [← e]
      by_cases h1 : s.2 < 0
      · rw [if_pos h1, if_pos (.inl h1)]
        exact ih (p + 1) k (o, costB l false o) hd' (by omega)
      · rw [if_neg h1]
        by_cases h2 : costB l false o < s.2
        · rw [if_pos h2, if_pos (.inr h2)]
          exact ih (p + 1) k (o, costB l false o) hd' (by omega)
        · rw [if_neg h2, if_neg (by omega)]
          exact ih (p + 1) k s hd' (by omega)
theorem specBest_stop (l : List S59) (deep : Int) (quay : Bool) (c : Int) (hc : c ≠ 0) (p : Int) (k : Nat) (hk : 1 < k) : spec_l04Best.l0 k l deep quay c p = some ([], 0, c) := by
  obtain ⟨k, rfl⟩ : ∃ m, k = m + 2 := ⟨k - 2, by omega⟩
  have hb : (c == 0) = false := beq_eq_false_iff_ne.2 hc
  simp only [spec_l04Best.l0, hb, spec_l04Best.j1, Bool.false_eq_true, if_false]
  rw [if_neg hc]
  split <;> rfl
/-- All right partings, in the reference's order. -/
def allB (l : List S59) (deep : Int) : List (List Int) := (allH l deep l.length [] 0).map (fun q => q.1)
theorem allB_eq (l : List S59) (deep : Int) (hv : ∀ x ∈ l, vh x = true) (h7 : l.length ≤ 7) (hd : 0 ≤ deep) : ((parts l.length [] 0).filter (fun q => areH l deep q.1)).map (fun q => q.1) = allB l deep := by
  rw [parts_all l deep hv h7 l.length [] 0 (by simp) (by simp)]
  have : areH l deep [] = true := by rw [areH_all l deep [] hd (by simp)]; rfl
  rw [if_pos this]
  rfl
theorem allB_in (l : List S59) (deep : Int) (hv : ∀ x ∈ l, vh x = true) (h7 : l.length ≤ 7) (hd : 0 ≤ deep) : ∀ o ∈ allB l deep, o.length = l.length ∧ ∀ x ∈ o, 0 ≤ x ∧ x < 8 := by
  intro o ho
  rw [← allB_eq l deep hv h7 hd] at ho
  obtain ⟨q, hq, rfl⟩ := List.mem_map.1 ho
  obtain ⟨h1, h2⟩ := parts_in l.length [] 0 (by simp) (by simp) q (List.mem_filter.1 hq).1
  simp only [List.length_nil, Nat.zero_add] at h1 h2
  exact ⟨h1, fun x hx => by have := h2 x hx; omega⟩
theorem allB_len (l : List S59) (deep : Int) (h7 : l.length ≤ 7) : (allB l deep).length ≤ 823543 := by
  unfold allB
  rw [List.length_map]
  have h1 := allH_length l deep h7 l.length [] 0 (by simp) (by simp)
  have h2 : 7 ^ l.length ≤ 7 ^ 7 := Nat.pow_le_pow_right (by omega) h7
  omega
theorem specBest_l0 (l : List S59) (deep : Int) (quay : Bool) (hv : ∀ x ∈ l, vh x = true) (h7 : l.length ≤ 7) (hd : 0 ≤ deep) : ∀ (rest : List S59) (p k : Nat), l.drop p = rest → 2 * rest.length + 900000 < k →
    spec_l04Best.l0 k l deep quay 0 (p : Int) = if tooDeep rest deep = true then some ([], 0, 6) else some ((bestL (costB l quay) ([], -1) (allB l deep)).1, (bestL (costB l quay) ([], -1) (allB l deep)).2, 0) := by
  intro rest
  induction rest with
  | nil =>
    intro p k hd' hk
    obtain ⟨k, rfl⟩ : ∃ m, k = m + 2 := ⟨k - 2, by omega⟩
    have := of_drop_nil hd'
    have hal := allB_len l deep h7
    simp only [spec_l04Best.l0]
    rw [if_neg (by omega)]
    simp only [spec_l04Best.j1, Bool.false_eq_true, if_false, if_true]
    have e := l04All_is l deep hv h7 l.length [] 0 k (by simp) (by simp) (by omega)
    have e' : spec_l04All.f k l deep [] 0 = some (allB l deep) := e
    rw [e']
    simp only [Option.bind_some]
    have e2 := specBest_l1 l quay hv h7 (allB l deep) (by omega) (allB_in l deep hv h7 hd) (allB l deep) 0 k ([], -1) rfl (by omega)
    rw [if_neg (by simp [tooDeep])]
    exact e2
  | cons x rest ih =>
    intro p k hd' hk
    simp only [List.length_cons] at hk
    obtain ⟨k, rfl⟩ : ∃ m, k = m + 2 := ⟨k - 2, by omega⟩
    obtain ⟨hp, hd2, hx⟩ := of_drop hd'
    have hxl : l[p] = x := by
      have := hx z59
      rw [Int.toNat_natCast, List.getD_eq_getElem?_getD, List.getElem?_eq_getElem hp] at this
      exact this
    have hone : (l.take (p + 1)).drop p = [x] := by
      rw [List.take_succ_eq_append_getElem hp, List.drop_append_of_le_length (by simp; omega), List.drop_eq_nil_of_le (by simp; omega), hxl]
      rfl
    have hxv := hv x (hxl ▸ List.getElem_mem hp)
    simp only [spec_l04Best.l0]
    rw [if_pos (by omega)]
    simp only [spec_l04Best.j1, beq_self_eq_true, if_true]
    rw [step64 hp (by omega), if_pos (by omega), if_pos (by omega), if_pos (by omega), Int.toNat_natCast, Int.toNat_natCast, hone, l04Deep_is [x] (by simp) (fun y hy => by rw [List.mem_singleton.1 hy]; exact vh_in8 hxv) k (by simp; omega)]
    simp only [Option.bind_some]
    have e : deepH [x] = x.f0 + 1 := by simp [deepH]
    have et : tooDeep (x :: rest) deep = (decide (x.f0 + 1 > deep) || tooDeep rest deep) := by simp [tooDeep]
    rw [e, et]
    by_cases hg : x.f0 + 1 > deep
    · rw [if_pos hg, specBest_stop l deep quay 6 (by decide) _ k (by omega), decide_eq_true hg, Bool.true_or, if_pos rfl]
    · rw [if_neg hg, ih (p + 1) k hd2 (by omega), decide_eq_false hg, Bool.false_or]
/-- What both answer. -/
def bestAns (l : List S59) (deep : Int) (quay : Bool) : List Int × Int × Int := if deepC l deep = 0 then (if tooDeep l deep = true then ([], 0, 6) else ((bestL (costB l quay) ([], -1) (allB l deep)).1, (bestL (costB l quay) ([], -1) (allB l deep)).2, 0)) else ([], 0, deepC l deep)
theorem specBest_is (l : List S59) (deep : Int) (quay : Bool) (hl : l.length ≤ 1048576) (h8 : ∀ x ∈ l, In8 x) (k : Nat) (hk : l.length < k) (hk2 : 900020 < k) : spec_l04Best.f k l deep quay = some (bestAns l deep quay) := by
  unfold spec_l04Best.f bestAns
  rw [room_is l deep hl h8 k hk]
  simp only [Option.bind_some]
  by_cases hc : deepC l deep = 0
  · have hok := deepC_ok hc
    have h7 := (codeH_ok hok.1).1
    have e := specBest_l0 l deep quay (codeH_ok hok.1).2 h7 (by omega) l 0 k rfl (by omega)
    have e' : spec_l04Best.l0 k l deep quay 0 0 = _ := e
    rw [hc, e', if_pos rfl]
    split <;> rfl
  · rw [specBest_stop l deep quay _ hc 0 k (by omega), if_neg hc]
theorem implBest_is (l : List S59) (deep : Int) (quay : Bool) (cost : List Int → Int → Int) (hcost : ∀ q ∈ parts l.length [] 0, cost q.1 q.2 = costB l quay q.1) : bestR l deep cost = bestAns l deep quay := by
  unfold bestR bestAns
  by_cases hc : deepC l deep = 0
  · have hok := deepC_ok hc
    have h7 := (codeH_ok hok.1).1
    have hv := (codeH_ok hok.1).2
    rw [if_pos hc, if_pos hc]
    have e : bestRun l deep cost = bestL (costB l quay) ([], -1) (((parts l.length [] 0).filter (fun q => areH l deep q.1)).map (fun q => q.1)) := run_best l deep cost _ _ _ hcost
    cases ht : tooDeep l deep with
    | true =>
      rw [all_none hv h7 ht] at e
      rw [e, if_pos rfl]
      rfl
    | false =>
      rw [allB_eq l deep hv h7 (by omega)] at e
      have hne : allB l deep ≠ [] := by
        have := all_some ht l.length [] 0 (by simp) (by simp)
        intro h
        exact this (List.map_eq_nil_iff.1 h)
      have := bestL_nn (costB l quay) (costB_nn l hv quay) (allB l deep) ([], -1) (.inr hne)
      rw [e, if_neg (by omega), if_neg (by simp)]
  · rw [if_neg hc, if_neg hc]
theorem bestAns_len (l : List S59) (deep : Int) (quay : Bool) : (bestAns l deep quay).1.length ≤ l.length := by
  unfold bestAns
  split
  · rename_i hc
    have hok := deepC_ok hc
    split
    · simp
    · exact bestL_len _ _ _ _ (by simp) (fun o ho => by have := (allB_in l deep (codeH_ok hok.1).2 (codeH_ok hok.1).1 (by omega) o ho).1; omega)
  · simp

/-! The law's harness over a result that is a list of whole numbers. -/
theorem eqInt64S_l0 (l : List Int) (hl : l.length ≤ 1152921504606846976) : ∀ (rest : List Int) (p k : Nat), l.drop p = rest → rest.length < k → laws_eqInt64S.l0 k l l (p : Int) = some true := by
  intro rest
  induction rest with
  | nil =>
    intro p k hd hk
    obtain ⟨k, rfl⟩ : ∃ m, k = m + 1 := ⟨k - 1, by simp at hk; omega⟩
    have := of_drop_nil hd
    simp only [laws_eqInt64S.l0]
    rw [if_neg (by omega)]
  | cons x rest ih =>
    intro p k hd hk
    simp only [List.length_cons] at hk
    obtain ⟨k, rfl⟩ : ∃ m, k = m + 1 := ⟨k - 1, by omega⟩
    obtain ⟨hp, hd', hx⟩ := of_drop hd
    simp only [laws_eqInt64S.l0, if_true]
    rw [if_pos (by omega), if_pos (by omega), if_pos (by omega), step64 hp hl]
    exact ih (p + 1) k hd' (by omega)

theorem eqInt64S_is (l : List Int) (hl : l.length ≤ 1152921504606846976) (k : Nat) (hk : l.length < k) : laws_eqInt64S.f k l l = some true := by
  unfold laws_eqInt64S.f
  rw [if_pos rfl]
  exact eqInt64S_l0 l hl l 0 k rfl hk

/-- 1, 2, 3, .. in place of every number. -/
def marks : Int → Nat → List Int
  | _, 0 => []
  | a, n + 1 => a :: marks (a + 1) n

theorem marks_length : ∀ (n : Nat) (a : Int), (marks a n).length = n
  | 0, _ => rfl
  | n + 1, a => by simp [marks, marks_length n]

theorem markInt64S_l0 : ∀ (n p k : Nat) (l : List Int) (a : Int), l.length ≤ 1152921504606846976 → l.length = p + n → n < k → 0 ≤ a → a ≤ 2305843009213693952 + p →
    laws_markInt64S.l0 k l a (p : Int) = some (a + n, l.take p ++ marks a n)
  | 0, p, k, l, a, hl, hn, hk, h0, h1 => by
    obtain ⟨k, rfl⟩ : ∃ m, k = m + 1 := ⟨k - 1, by omega⟩
    simp only [laws_markInt64S.l0, marks]
    rw [if_neg (by omega), List.take_of_length_le (by omega)]
    simp
  | n + 1, p, k, l, a, hl, hn, hk, h0, h1 => by
    obtain ⟨k, rfl⟩ : ∃ m, k = m + 1 := ⟨k - 1, by omega⟩
    simp only [laws_markInt64S.l0]
    rw [if_pos (by omega), if_pos (by omega), w64_id (by omega), step64 (show p < l.length by omega) hl, Int.toNat_natCast,
      markInt64S_l0 n (p + 1) k (l.set p a) (a + 1) (by simpa using hl) (by simp; omega) (by omega) (by omega) (by omega), take_set_at _ _ _ (by omega)]
    simp only [marks, Option.some.injEq, Prod.mk.injEq, List.append_assoc, List.singleton_append, and_true]
    omega

theorem markInt64S_is (l : List Int) (hl : l.length ≤ 1152921504606846976) (k : Nat) (hk : l.length < k) : laws_markInt64S.f k l 1 = some (1 + (l.length : Int), marks 1 l.length) := by
  unfold laws_markInt64S.f
  exact (markInt64S_l0 l.length 0 k l 1 hl (by simp) hk (by omega) (by omega)).trans (by rw [List.take_zero, List.nil_append])

theorem heldInt64S_l0 (l : List Int) (hl : l.length ≤ 1152921504606846976) : ∀ (n p k : Nat) (a : Int), l.length = p + n → l.drop p = marks a n → n < k → 0 ≤ a → a ≤ 2305843009213693952 + p →
    laws_heldInt64S.l0 k l a (p : Int) = some (a + n)
  | 0, p, k, a, hn, hd, hk, h0, h1 => by
    obtain ⟨k, rfl⟩ : ∃ m, k = m + 1 := ⟨k - 1, by omega⟩
    simp only [laws_heldInt64S.l0]
    rw [if_neg (by omega)]
    simp
  | n + 1, p, k, a, hn, hd, hk, h0, h1 => by
    obtain ⟨k, rfl⟩ : ∃ m, k = m + 1 := ⟨k - 1, by omega⟩
    obtain ⟨hp, hd', hx⟩ := of_drop hd
    simp only [laws_heldInt64S.l0, rd, hx, if_true]
    rw [if_pos (by omega), if_pos (by omega), w64_id (by omega), step64 hp hl, heldInt64S_l0 l hl n (p + 1) k (a + 1) (by omega) hd' (by omega) (by omega) (by omega)]
    simp only [Option.some.injEq]
    omega

theorem heldInt64S_is (n : Nat) (hl : n ≤ 1152921504606846976) (k : Nat) (hk : n < k) : laws_heldInt64S.f k (marks 1 n) 1 = some (1 + (n : Int)) := by
  unfold laws_heldInt64S.f
  exact heldInt64S_l0 (marks 1 n) (by rw [marks_length]; exact hl) n 0 k 1 (by rw [marks_length]; simp) rfl hk (by omega) (by omega)

theorem markHullS_l0 : ∀ (n p k : Nat) (l : List S59) (a : Int), l.length ≤ 93824992236885 → l.length = p + n → n < k → 1 ≤ a → a ≤ 1 + 3 * p →
    ∃ ys : List S59, laws_markHullS.l0 k l a (p : Int) = some (a + 3 * n, ys)
  | 0, p, k, l, a, hl, hn, hk, h0, h1 => by
    obtain ⟨k, rfl⟩ : ∃ m, k = m + 1 := ⟨k - 1, by omega⟩
    refine ⟨l, ?_⟩
    simp only [laws_markHullS.l0]
    rw [if_neg (by omega)]
    simp
  | n + 1, p, k, l, a, hl, hn, hk, h0, h1 => by
    obtain ⟨k, rfl⟩ : ∃ m, k = m + 1 := ⟨k - 1, by omega⟩
    simp only [laws_markHullS.l0]
    rw [if_pos (by omega), if_pos (by omega)]
    rw [w64_id (a := a + 1) (by omega), w64_id (a := a + 1 + 1) (by omega), w64_id (a := a + 1 + 1 + 1) (by omega), step64 (show p < l.length by omega) (by omega)]
    have key : ∀ Y : List S59, Y.length = l.length → ∃ ys, laws_markHullS.l0 k Y (a + 1 + 1 + 1) ((p + 1 : Nat) : Int) = some (a + 3 * ((n + 1 : Nat) : Int), ys) := by
      intro Y hY
      obtain ⟨ys, e⟩ := markHullS_l0 n (p + 1) k Y (a + 1 + 1 + 1) (by omega) (by omega) (by omega) (by omega) (by omega)
      refine ⟨ys, ?_⟩
      rw [e]
      simp only [Option.some.injEq, Prod.mk.injEq, and_true]
      omega
    exact key _ (by simp)

theorem markHullS_is (l : List S59) (hl : l.length ≤ 93824992236885) (k : Nat) (hk : l.length < k) : ∃ ys, laws_markHullS.f k l 1 = some (1 + 3 * (l.length : Int), ys) := by
  unfold laws_markHullS.f
  exact markHullS_l0 l.length 0 k l 1 hl (by simp) hk (by omega) (by omega)

/-- The law, in plain Lean. -/
def FnExactShortestQuay.Said : Prop := ∀ (l0 : List S65) (a1 : Int), l0.length ≤ maxLen → l0.length * 3 ≤ 140737488351232 → (∀ x ∈ l0, (Lit.int .i8 x.f0).wf = true ∧ (Lit.int .i8 x.f1).wf = true ∧ (Lit.int .i8 x.f2).wf = true) → (Lit.int .i64 a1).wf = true → ∃ k, laws_FnExactShortestQuay.f k l0 a1 = some true

theorem implShortestQuay_is (l : List S59) (deep : Int) (hl : l.length ≤ 1048576) : impl_ShortestQuay.f l deep = some (bestAns l deep true) := by
  unfold impl_ShortestQuay.f
  rw [if_pos hl, implBest_is l deep true _ (fun q hq => rfl)]
theorem specShortestQuay_is (l : List S59) (deep : Int) (hl : l.length ≤ 1048576) (h8 : ∀ x ∈ l, In8 x) (k : Nat) (hk : l.length < k) (hk2 : 900020 < k) : spec_ShortestQuay.f k l deep = some (bestAns l deep true) := by
  unfold spec_ShortestQuay.f
  rw [specBest_is l deep true hl h8 k hk hk2]
  rfl

theorem FnExactShortestQuay : FnExactShortestQuay.Said := by
  intro l deep hm hy hok hd
  have hl : l.length ≤ 93824992236885 := by omega
  have h8 := cvH_in hok
  have hlm : (l.map cvH).length = l.length := List.length_map ..
  obtain ⟨K, hK⟩ : ∃ K, K = l.length + 900030 := ⟨_, rfl⟩
  refine ⟨K + 3, ?_⟩
  unfold laws_FnExactShortestQuay.f
  rw [szHullS_is l _ hl (by omega) (by omega)]
  simp only [Option.bind_some]
  by_cases big : (1048576 : Int) < l.length
  · rw [if_pos big]; rfl
  · rw [if_neg big, if_neg (by omega), toHullS_is l hl _ (by omega)]
    simp only [Option.bind_some]
    have hr := bestAns_len (l.map cvH) deep true
    generalize hR : bestAns (l.map cvH) deep true = R at hr
    rw [specShortestQuay_is _ deep (by omega) h8 _ (by omega) (by omega), implShortestQuay_is _ deep (by omega), hR]
    simp only [Option.bind_some]
    rw [eqInt64S_is _ (by omega) _ (by omega)]
    simp only [Option.bind_some, if_true, bne_self_eq_false, laws_FnExactShortestQuay.j0, Bool.false_eq_true, if_false]
    rw [toHullS_is l hl _ (by omega)]
    simp only [Option.bind_some]
    rw [eqHullS_is _ (by omega) _ (by omega)]
    simp only [Option.bind_some, if_true]
    obtain ⟨ys, e⟩ := markHullS_is (l.map cvH) (by omega) (K + 2) (by omega)
    rw [e]
    simp only [Option.bind_some]
    rw [if_neg (by omega), eqInt64S_is _ (by omega) _ (by omega)]
    simp only [Option.bind_some, if_true, laws_FnExactShortestQuay.j1, Bool.false_eq_true, if_false]
    rw [markInt64S_is _ (by omega) _ (by omega)]
    simp only [Option.bind_some]
    rw [heldInt64S_is _ (by omega) _ (by omega)]
    simp only [Option.bind_some, if_true]
    rw [if_neg (by omega), toHullS_is l hl _ (by omega)]
    simp only [Option.bind_some]
    rw [implShortestQuay_is _ deep (by omega), hR]
    simp only [Option.bind_some]
    rw [eqInt64S_is _ (by omega) _ (by omega)]
    simp only [Option.bind_some, if_true, bne_self_eq_false, laws_FnExactShortestQuay.j2, Bool.false_eq_true, if_false]
    rw [heldInt64S_is _ (by omega) _ (by omega)]
    simp only [Option.bind_some, if_true]
    rw [if_neg (by omega)]

end Go.Proofs.Ytpimdgkofgendaa.Pure
