/- The program's CanLeave returns what the reference's CanLeave returns, for all numbers of chains, all covers and all orders (of at most 2^20; longer lists the law lets by). -/
import Derived.Test.YtjcdgimldhodiaaPFnExactCanLeavex8
namespace Go.Proofs.Ytjcdgimldhodiaa.Pure
open Go.RowKit Go.Proofs.Ytjcdgimldhodiaa.PFnExactCanLeave Go.Proofs.YtjcdgimldhodiaaW.PrintWords Go.Proofs.YtjcdgimldhodiaaW.PrintLast Go.Proofs.YtjcdgimldhodiaaW.PrintMore
set_option linter.unusedVariables false
set_option linter.unusedSimpArgs false

def cvC (x : S66) : S64 := ⟨x.f0, x.f1⟩

theorem toCoverS_l0 (l : List S66) (hl : l.length ≤ 1152921504606846976) : ∀ (rest : List S66) (p k : Nat) (ys : List S64), l.drop p = rest → ys.length = l.length → rest.length < k →
    laws_toCoverS.l0 k l ys (p : Int) = some (ys.take p ++ rest.map cvC) := by
  intro rest
  induction rest with
  | nil =>
    intro p k ys hd hy hk
    obtain ⟨k, rfl⟩ : ∃ m, k = m + 1 := ⟨k - 1, by simp at hk; omega⟩
    have := of_drop_nil hd
    simp only [laws_toCoverS.l0]
    rw [if_neg (by omega), List.take_of_length_le (by omega)]
    simp
  | cons x rest ih =>
    intro p k ys hd hy hk
    simp only [List.length_cons] at hk
    obtain ⟨k, rfl⟩ : ∃ m, k = m + 1 := ⟨k - 1, by omega⟩
    obtain ⟨hp, hd', hx⟩ := of_drop hd
    simp only [laws_toCoverS.l0, laws_toCover.f, rd_T66, hx, Option.bind_some]
    rw [if_pos (by omega), if_pos (by omega), if_pos (by omega), step64 hp hl, ih (p + 1) k _ hd' (by simpa using hy) (by omega), Int.toNat_natCast, take_set_at _ _ _ (by omega)]
    simp [cvC]

theorem toCoverS_is (l : List S66) (hl : l.length ≤ 93824992236885) (k : Nat) (hk : l.length < k) : laws_toCoverS.f k l = some (l.map cvC) := by
  unfold laws_toCoverS.f
  rw [if_pos (by omega), if_pos (by omega)]
  have := toCoverS_l0 l (by omega) l 0 k (List.replicate (l.length : Int).toNat z64) rfl (by simp) hk
  simpa using this

theorem eqCoverS_l0 (l : List S64) (hl : l.length ≤ 1152921504606846976) : ∀ (rest : List S64) (p k : Nat), l.drop p = rest → rest.length < k → laws_eqCoverS.l0 k l l (p : Int) = some true := by
  intro rest
  induction rest with
  | nil =>
    intro p k hd hk
    obtain ⟨k, rfl⟩ : ∃ m, k = m + 1 := ⟨k - 1, by simp at hk; omega⟩
    have := of_drop_nil hd
    simp only [laws_eqCoverS.l0]
    rw [if_neg (by omega)]
  | cons x rest ih =>
    intro p k hd hk
    simp only [List.length_cons] at hk
    obtain ⟨k, rfl⟩ : ∃ m, k = m + 1 := ⟨k - 1, by omega⟩
    obtain ⟨hp, hd', hx⟩ := of_drop hd
    simp only [laws_eqCoverS.l0, laws_eqCover.f, if_true, Option.bind_some]
    rw [if_pos (by omega), if_pos (by omega), if_pos (by omega), step64 hp hl]
    exact ih (p + 1) k hd' (by omega)

theorem eqCoverS_is (l : List S64) (hl : l.length ≤ 1152921504606846976) (k : Nat) (hk : l.length < k) : laws_eqCoverS.f k l l = some true := by
  unfold laws_eqCoverS.f
  rw [if_pos rfl]
  exact eqCoverS_l0 l hl l 0 k rfl hk

theorem szCoverS_is (l : List S66) (a : Int) (hl : l.length ≤ 93824992236885) (h0 : 0 ≤ a) (h1 : a ≤ 1048576) : laws_szCoverS.f l a = some (if a < l.length then -1 else a - l.length) := by
  unfold laws_szCoverS.f
  rw [w64_id (by omega)]
  by_cases h : a < l.length
  · rw [if_pos (by omega), if_pos h]
  · rw [if_neg (by omega), if_neg h]

theorem listB_mem {a : Nat} (ha : a < 65536) {y : Int} : y ∈ listB (a : Int) ↔ ∃ i : Nat, i < 12 ∧ y = (i : Int) ∧ a.testBit i = true := by
  unfold listB
  rw [List.mem_filter, cntI_mem]
  constructor
  · rintro ⟨h1, h2⟩
    obtain ⟨i, rfl⟩ : ∃ i : Nat, y = (i : Int) := ⟨y.toNat, by omega⟩
    exact ⟨i, by omega, rfl, by rw [← bitI_is ha (by omega)]; exact h2⟩
  · rintro ⟨i, h1, rfl, h2⟩
    exact ⟨by omega, by rw [bitI_is ha h1]; exact h2⟩
theorem listB_lt (z : Int) : (listB z).Pairwise (fun a b => a < b) := (cntI_lt 12).sublist List.filter_sublist
theorem listB_length (z : Int) : (listB z).length ≤ 12 := Nat.le_trans (List.length_filter_le _ _) (by rw [cntI_length]; omega)
theorem in12 {n : Int} {l : List S64} (h : okC n l = true) : ∀ x ∈ l, (0 ≤ x.f0 ∧ x.f0 < 12) ∧ (0 ≤ x.f1 ∧ x.f1 < 12) := fun x hx => by
  obtain ⟨h1, h2, _, h4, _⟩ := okC_ok h
  have := h4 x hx
  omega
theorem listB_cover {n : Int} {l : List S64} (h : okC n l = true) {c : Int} (hc : 0 ≤ c ∧ c < n) : listB (rd (maskL l) c) = sort64 (coverF l c) := by
  obtain ⟨h1, h2, _, h4, h5⟩ := okC_ok h
  obtain ⟨u, rfl⟩ : ∃ u : Nat, c = (u : Int) := ⟨c.toNat, by omega⟩
  obtain ⟨a, ha, hlt, hb⟩ := (says_all l (in12 h)).2 u (by omega)
  refine sort_unique (listB_lt _) (coverF_nodup h5 _) (fun y => ?_)
  rw [ha, listB_mem hlt, coverF_mem]
  constructor
  · rintro ⟨i, hi, rfl, ht⟩
    exact (hb i hi).1 ht
  · rintro ⟨x, hx, g1, g2⟩
    have := (in12 h) x hx
    refine ⟨y.toNat, by omega, by omega, (hb y.toNat (by omega)).2 ⟨x, hx, g1, by omega⟩⟩

theorem l00In_n (n c : Int) (hn : 0 ≤ n ∧ n ≤ 12) : spec_l00In.f c 0 (wrap64 (n - 1)) = some (decide (0 ≤ c ∧ c < n)) := by
  rw [w64_id (by omega)]
  unfold spec_l00In.f
  split
  · exact some_dec (by omega)
  · exact some_decF (by omega)
theorem specOk_l1 (n : Int) (l : List S64) (hl : l.length ≤ 1048576) (p : Nat) (hp : p < l.length) (x : S64) : ∀ (m q k : Nat), q + m = p → m < k →
    spec_l03Ok.l1 k n l (p : Int) (q : Int) x.f0 x.f1 = if x ∈ (l.take p).drop q then some false else spec_l03Ok.l0 (k - m - 1) n l ((p + 1 : Nat) : Int) := by
  intro m
  induction m with
  | zero =>
    intro q k hq hk
    obtain ⟨k, rfl⟩ : ∃ m, k = m + 1 := ⟨k - 1, by omega⟩
    simp only [spec_l03Ok.l1]
    rw [if_neg (by omega), step64 hp (by omega), List.drop_eq_nil_of_le (by simp; omega), if_neg (by simp)]
    rfl
  | succ m ih =>
    intro q k hq hk
    obtain ⟨k, rfl⟩ : ∃ m, k = m + 1 := ⟨k - 1, by omega⟩
    have hql : q < l.length := by omega
    have r1 : rd_T64 l (q : Int) = l[q] := by
      rw [rd_T64, Int.toNat_natCast, List.getD_eq_getElem?_getD, List.getElem?_eq_getElem hql]; rfl
    have hd : (l.take p).drop q = l[q] :: (l.take p).drop (q + 1) := by
      rw [List.drop_eq_getElem_cons (by simp; omega)]
      simp
    simp only [spec_l03Ok.l1, r1]
    rw [if_pos (by omega), if_pos (by omega), if_pos (by omega), step64 hql (by omega), ih (q + 1) k (by omega) (by omega), hd]
    have e : k + 1 - (m + 1) - 1 = k - m - 1 := by omega
    rw [e]
    show (if samC l[q] x = true then _ else _) = _
    cases h : samC l[q] x with
    | true => rw [if_pos rfl, if_pos (by rw [samC_eq h]; simp)]
    | false =>
      have hne := samC_ne h
      rw [if_neg (by simp)]
      by_cases g : x ∈ (l.take p).drop (q + 1)
      · rw [if_pos g, if_pos (List.mem_cons_of_mem _ g)]
      · rw [if_neg g, if_neg (fun m => by rcases List.mem_cons.1 m with m | m; exact hne m.symm; exact g m)]
theorem specOk_l0 (n : Int) (hn : 0 ≤ n ∧ n ≤ 12) (l : List S64) (hl : l.length ≤ 1048576) (h8 : ∀ x ∈ l, InC x) : ∀ (rest : List S64) (p k : Nat), l.drop p = rest → rest.length * (l.length + 4) < k → spec_l03Ok.l0 k n l (p : Int) = some (okGo n (l.take p) rest) := by
  intro rest
  induction rest with
  | nil =>
    intro p k hd hk
    obtain ⟨k, rfl⟩ : ∃ m, k = m + 1 := ⟨k - 1, by omega⟩
    have := of_drop_nil hd
    simp only [spec_l03Ok.l0, okGo]
    rw [if_neg (by omega)]
  | cons y rest ih =>
    intro p k hd hk
    simp only [List.length_cons, Nat.succ_mul] at hk
    generalize hZ : rest.length * (l.length + 4) = Z at hk
    obtain ⟨k, rfl⟩ : ∃ m, k = m + 2 := ⟨k - 2, by omega⟩
    obtain ⟨hp, hd', hx⟩ := of_drop hd
    have hy : l[p] = y := by
      have := hx z64
      rw [Int.toNat_natCast, List.getD_eq_getElem?_getD, List.getElem?_eq_getElem hp] at this
      exact this
    have hin := h8 y (List.mem_of_mem_drop (by rw [hd]; exact List.mem_cons_self))
    have i0 := hin.1
    have i1 := hin.2
    have I := fun k' hk' => ih (p + 1) k' hd' hk'
    rw [List.take_succ_eq_append_getElem hp, hy] at I
    simp only [spec_l03Ok.l0, rd_T64, hx, okGo]
    rw [if_pos (by omega), if_pos (by omega), w64_id (a := y.f0) (by omega), w64_id (a := y.f1) (by omega), l00In_n n _ hn, l00In_n n _ hn]
    simp only [Option.bind_some]
    have bad : spec_l03Ok.j2 (k + 1) n l (p : Int) true y.f0 y.f1 = some false := by simp [spec_l03Ok.j2]
    by_cases h0 : 0 ≤ y.f0 ∧ y.f0 < n
    · rw [decide_eq_true h0, if_pos rfl]
      by_cases h1 : 0 ≤ y.f1 ∧ y.f1 < n
      · rw [decide_eq_true h1, if_pos rfl]
        by_cases h2 : y.f0 = y.f1
        · rw [beq_iff_eq.2 h2, bad, if_neg (fun g => g.2.2.1 h2)]
        · have e := specOk_l1 n l hl p hp y p 0 k (by omega) (by omega)
          have e' : spec_l03Ok.l1 k n l (p : Int) 0 y.f0 y.f1 = _ := e
          rw [beq_eq_false_iff_ne.2 h2]
          simp only [spec_l03Ok.j2, Bool.false_eq_true, if_false]
          rw [e', List.drop_zero]
          by_cases h3 : y ∈ l.take p
          · rw [if_pos h3, if_neg (fun g => g.2.2.2 h3)]
          · rw [if_neg h3, if_pos ⟨h0, h1, h2, h3⟩, I _ (by omega)]
      · rw [decide_eq_false h1, if_neg (by simp), bad, if_neg (fun g => h1 g.2.1)]
    · rw [decide_eq_false h0, if_neg (by simp), bad, if_neg (fun g => h0 g.1)]
theorem specOk_is (n : Int) (l : List S64) (hl : l.length ≤ 1048576) (h8 : ∀ x ∈ l, InC x) (k : Nat) (hk : l.length * (l.length + 4) + 1 < k) : spec_l03Ok.f k n l = some (okC n l) := by
  obtain ⟨k, rfl⟩ : ∃ m, k = m + 1 := ⟨k - 1, by omega⟩
  have e0 : spec_l00In.f n 0 12 = some (decide (0 ≤ n ∧ n ≤ 12)) := by
    unfold spec_l00In.f
    split
    · exact some_dec (by omega)
    · exact some_decF (by omega)
  unfold spec_l03Ok.f okC
  rw [e0]
  simp only [Option.bind_some]
  by_cases h0 : 0 ≤ n ∧ n ≤ 12
  · rw [decide_eq_true h0, if_pos rfl]
    simp only [spec_l03Ok.j0]
    by_cases h2 : (l.length : Int) > 60
    · rw [decide_eq_true h2, if_pos rfl, decide_eq_false (by omega)]; rfl
    · have e := specOk_l0 n h0 l hl h8 l 0 k rfl (by omega)
      have e' : spec_l03Ok.l0 k n l 0 = _ := e
      rw [decide_eq_false h2, if_neg (by simp), e', decide_eq_true (by omega)]; rfl
  · rw [decide_eq_false h0, if_neg (by simp), decide_eq_false (fun g => h0 ⟨g.1, g.2.1⟩)]
    simp [spec_l03Ok.j0]
/-- The code of covers, and whether a number is as told. -/
def askC (n : Int) (l : List S64) (fine : Bool) : Int := if okC n l = true then (if fine = true then 0 else 2) else 1
theorem asked_is (n : Int) (l : List S64) (fine : Bool) (hl : l.length ≤ 1048576) (h8 : ∀ x ∈ l, InC x) (k : Nat) (hk : l.length * (l.length + 4) + 1 < k) : spec_l03Asked.f k n l fine = some (askC n l fine) := by
  unfold spec_l03Asked.f askC
  rw [specOk_is n l hl h8 k hk]
  simp only [Option.bind_some]
  repeat' split
  all_goals rfl

theorem l00In_some (c a b : Int) : ∃ r, spec_l00In.f c a b = some r := by
  unfold spec_l00In.f
  split <;> exact ⟨_, rfl⟩
theorem asked_n (n : Int) (l : List S64) (c : Int) (b : Bool) (hb : spec_l00In.f c 0 (wrap64 (n - 1)) = some b) : askC n l b = askC n l (decide (0 ≤ c ∧ c < n)) := by
  unfold askC
  by_cases h : okC n l = true
  · rw [if_pos h, if_pos h]
    obtain ⟨h1, h2, _⟩ := okC_ok h
    rw [l00In_n n c ⟨h1, h2⟩, Option.some.injEq] at hb
    rw [hb]
  · rw [if_neg h, if_neg h]
theorem askC_0 {n : Int} {l : List S64} {b : Bool} (h : askC n l b = 0) : okC n l = true ∧ b = true := by
  unfold askC at h
  split at h
  · rename_i h1
    split at h
    · exact ⟨h1, by assumption⟩
    · omega
  · omega

theorem coverAt_l0 (l : List S64) (x : S64) (hl : l.length ≤ 1152921504606846976) : ∀ (rest : List S64) (p k : Nat), l.drop p = rest → rest.length < k → ∃ r : Int, impl_Cover_116.l0 k l (l.length : Int) (p : Int) x.f0 x.f1 = some r ∧ (r ≥ 0 ↔ x ∈ rest) := by
  intro rest
  induction rest with
  | nil =>
    intro p k hd hk
    obtain ⟨k, rfl⟩ : ∃ m, k = m + 1 := ⟨k - 1, by simp at hk; omega⟩
    have := of_drop_nil hd
    refine ⟨-1, ?_, by simp⟩
    simp only [impl_Cover_116.l0]
    rw [if_neg (by omega)]
  | cons y rest ih =>
    intro p k hd hk
    simp only [List.length_cons] at hk
    obtain ⟨k, rfl⟩ : ∃ m, k = m + 1 := ⟨k - 1, by omega⟩
    obtain ⟨hp, hd', hx⟩ := of_drop hd
    obtain ⟨r, hr1, hr2⟩ := ih (p + 1) k hd' (by omega)
    simp only [impl_Cover_116.l0, rd_T64, hx]
    rw [if_pos (by omega), if_pos (by omega), if_pos (by omega), step64 hp hl, hr1]
    show ∃ r_1, (if samC x y = true then some (p : Int) else some r) = some r_1 ∧ (r_1 ≥ 0 ↔ x ∈ y :: rest)
    cases h : samC x y with
    | true =>
      rw [if_pos rfl]
      exact ⟨p, rfl, ⟨fun _ => by rw [samC_eq h]; simp, fun _ => by omega⟩⟩
    | false =>
      rw [if_neg (by simp)]
      refine ⟨r, rfl, hr2.trans ?_⟩
      have := samC_ne h
      simp [this]
theorem coverHas_is (l : List S64) (x : S64) (hl : l.length ≤ 1152921504606846976) (k : Nat) (hk : l.length < k) : impl_Cover_101.f k l x.f0 x.f1 = some (decide (x ∈ l)) := by
  obtain ⟨r, h1, h2⟩ := coverAt_l0 l x hl l 0 k rfl hk
  unfold impl_Cover_101.f impl_Cover_116.f
  have h1' : impl_Cover_116.l0 k l (l.length : Int) 0 x.f0 x.f1 = some r := h1
  rw [h1']
  simp only [Option.bind_some]
  exact some_dec h2
theorem isChain_is (n c : Int) : impl_isChain.f n c = some (decide (0 ≤ c ∧ c < n)) := by
  unfold impl_isChain.f
  split
  · exact some_dec (by omega)
  · exact some_decF (by omega)
theorem validCovers_l0 (n : Int) (l : List S64) (hl : l.length ≤ 1048576) (h8 : ∀ x ∈ l, InC x) : ∀ (rest : List S64) (p k : Nat), l.drop p = rest → rest.length + l.length + 1 < k → impl_ValidCovers.l0 k n l l (l.length : Int) (p : Int) = some (okGo n (l.take p) rest) := by
  intro rest
  induction rest with
  | nil =>
    intro p k hd hk
    obtain ⟨k, rfl⟩ : ∃ m, k = m + 1 := ⟨k - 1, by omega⟩
    have := of_drop_nil hd
    simp only [impl_ValidCovers.l0, okGo]
    rw [if_neg (by omega)]
  | cons y rest ih =>
    intro p k hd hk
    simp only [List.length_cons] at hk
    obtain ⟨k, rfl⟩ : ∃ m, k = m + 1 := ⟨k - 1, by omega⟩
    obtain ⟨hp, hd', hx⟩ := of_drop hd
    have hy : l[p] = y := by
      have := hx z64
      rw [Int.toNat_natCast, List.getD_eq_getElem?_getD, List.getElem?_eq_getElem hp] at this
      exact this
    have hin := h8 y (List.mem_of_mem_drop (by rw [hd]; exact List.mem_cons_self))
    have i0 := hin.1
    have i1 := hin.2
    have I := ih (p + 1) k hd' (by omega)
    rw [List.take_succ_eq_append_getElem hp, hy] at I
    simp only [impl_ValidCovers.l0, rd_T64, hx, okGo]
    rw [if_pos (by omega), if_pos (by omega), if_pos (by omega), w64_id (a := y.f0) (by omega), w64_id (a := y.f1) (by omega), isChain_is, isChain_is]
    simp only [Option.bind_some]
    by_cases h0 : 0 ≤ y.f0 ∧ y.f0 < n
    · rw [decide_eq_true h0, if_pos rfl]
      by_cases h1 : 0 ≤ y.f1 ∧ y.f1 < n
      · rw [decide_eq_true h1, if_pos rfl]
        by_cases h2 : y.f0 = y.f1
        · rw [if_pos h2, if_neg (fun g => g.2.2.1 h2)]
        · rw [if_neg h2, if_pos (by omega), Int.toNat_natCast, coverHas_is (l.take p) y (by simp; omega) k (by simp; omega)]
          simp only [Option.bind_some]
          by_cases h3 : y ∈ l.take p
          · rw [decide_eq_true h3, if_pos rfl, if_neg (fun g => g.2.2.2 h3)]
          · rw [decide_eq_false h3, if_neg (by simp), if_pos ⟨h0, h1, h2, h3⟩, step64 hp (by omega), I]
      · rw [decide_eq_false h1, if_neg (by simp), if_neg (fun g => h1 g.2.1)]
    · rw [decide_eq_false h0, if_neg (by simp), if_neg (fun g => h0 g.1)]
theorem validCovers_is (n : Int) (l : List S64) (hl : l.length ≤ 1048576) (h8 : ∀ x ∈ l, InC x) (k : Nat) (hk : 2 * l.length + 2 < k) : impl_ValidCovers.f k n l = some (okC n l) := by
  obtain ⟨k, rfl⟩ : ∃ m, k = m + 1 := ⟨k - 1, by omega⟩
  unfold impl_ValidCovers.f okC
  by_cases h0 : n < 0
  · rw [if_pos h0, decide_eq_false (by omega)]
    simp [impl_ValidCovers.j0]
  · rw [if_neg h0]
    by_cases h1 : n > 12
    · rw [if_pos h1, decide_eq_false (by omega)]
      simp [impl_ValidCovers.j0]
    · rw [if_neg h1]
      simp only [impl_ValidCovers.j0]
      by_cases h2 : (l.length : Int) > 60
      · rw [decide_eq_true h2, if_pos rfl, decide_eq_false (by omega)]; rfl
      · have e := validCovers_l0 n l hl h8 l 0 k rfl (by omega)
        have e' : impl_ValidCovers.l0 k n l l (l.length : Int) 0 = _ := e
        rw [decide_eq_false h2, if_neg (by simp), e', decide_eq_true (by omega)]; rfl

theorem chainCode_l0 (n : Int) (cs : List Int) (hl : cs.length ≤ 1048576) : ∀ (rest : List Int) (p k : Nat), cs.drop p = rest → rest.length < k → impl_chainCode.l0 k n cs (cs.length : Int) (p : Int) = some (if ∀ c ∈ rest, 0 ≤ c ∧ c < n then 0 else 2) := by
  intro rest
  induction rest with
  | nil =>
    intro p k hd hk
    obtain ⟨k, rfl⟩ : ∃ m, k = m + 1 := ⟨k - 1, by omega⟩
    have := of_drop_nil hd
    simp only [impl_chainCode.l0]
    rw [if_neg (by omega), if_pos (by simp)]
  | cons y rest ih =>
    intro p k hd hk
    simp only [List.length_cons] at hk
    obtain ⟨k, rfl⟩ : ∃ m, k = m + 1 := ⟨k - 1, by omega⟩
    obtain ⟨hp, hd', hx⟩ := of_drop hd
    simp only [impl_chainCode.l0, rd, hx]
    rw [if_pos (by omega), if_pos (by omega), if_pos (by omega), isChain_is, step64 hp (by omega), ih (p + 1) k hd' (by omega)]
    simp only [Option.bind_some]
    by_cases h : 0 ≤ y ∧ y < n
    · rw [decide_eq_true h, if_pos rfl]
      by_cases g : ∀ c ∈ rest, 0 ≤ c ∧ c < n
      · rw [if_pos g, if_pos (fun c hc => by rcases List.mem_cons.1 hc with rfl | hc; exact h; exact g c hc)]
      · rw [if_neg g, if_neg (fun f => g (fun c hc => f c (List.mem_cons_of_mem _ hc)))]
    · rw [decide_eq_false h, if_neg (by simp), if_neg (fun f => h (f y List.mem_cons_self))]
theorem chainCode_is (n : Int) (l : List S64) (cs : List Int) (hc : cs.length ≤ 1048576) (hl : l.length ≤ 1048576) (h8 : ∀ x ∈ l, InC x) (k : Nat) (hk : 2 * l.length + cs.length + 2 < k) : impl_chainCode.f k n l cs = some (askC n l (decide (∀ c ∈ cs, 0 ≤ c ∧ c < n))) := by
  unfold impl_chainCode.f askC
  rw [validCovers_is n l hl h8 k (by omega)]
  simp only [Option.bind_some]
  by_cases h : okC n l = true
  · have e := chainCode_l0 n cs hc cs 0 k rfl (by omega)
    have e' : impl_chainCode.l0 k n cs (cs.length : Int) 0 = _ := e
    rw [if_pos h, if_pos h, e']
    by_cases g : ∀ c ∈ cs, 0 ≤ c ∧ c < n
    · rw [if_pos g, decide_eq_true g, if_pos rfl]
    · rw [if_neg g, decide_eq_false g, if_neg (by simp)]
  · rw [if_neg h, if_neg h]

theorem bits_and {a b : Nat} (ha : a < 65536) (hb : b < 65536) : Go.bits .and .u16 (a : Int) (b : Int) = ((a &&& b : Nat) : Int) := by
  have hab : a &&& b < 65536 := Nat.lt_of_le_of_lt Nat.and_le_left ha
  have : Go.bits .and .u16 (a : Int) (b : Int) = IntKind.u16.wrap (((BitVec.ofInt 16 (a : Int) &&& BitVec.ofInt 16 (b : Int)).toNat : Nat) : Int) := rfl
  rw [this, BitVec.toNat_and]
  have e : ∀ x : Nat, x < 65536 → (BitVec.ofInt 16 (x : Int)).toNat = x := fun x hx => by
    rw [BitVec.toNat_ofInt]
    omega
  rw [e a ha, e b hb, wu16 hab]
theorem and_zero (a b : Nat) : a &&& b = 0 ↔ ∀ i, ¬ (a.testBit i = true ∧ b.testBit i = true) := by
  constructor
  · intro h i g
    have : (a &&& b).testBit i = true := by rw [Nat.testBit_and, g.1, g.2]; rfl
    rw [h, Nat.zero_testBit] at this
    cases this
  · intro h
    apply Nat.eq_of_testBit_eq
    intro i
    rw [Nat.zero_testBit, Nat.testBit_and]
    cases h1 : a.testBit i with
    | false => rfl
    | true =>
      cases h2 : b.testBit i with
      | false => rfl
      | true => exact absurd ⟨h1, h2⟩ (h i)
theorem bit_lt {a i : Nat} (ha : a < 4096) (h : a.testBit i = true) : i < 12 := by
  rcases Nat.lt_or_ge i 12 with g | g
  · exact g
  · rw [Nat.testBit_lt_two_pow (Nat.lt_of_lt_of_le ha (Nat.pow_le_pow_right (by omega) g : 2 ^ 12 ≤ 2 ^ i))] at h
    cases h
theorem lt_of_bits {a : Nat} (h : ∀ i, a.testBit i = true → i < 12) : a < 4096 := by
  have : a < 2 ^ 12 := Nat.lt_pow_two_of_testBit a (fun i hi => by
    cases g : a.testBit i with
    | false => rfl
    | true => have := h i g; omega)
  exact this
theorem two_lt {x : Nat} (hx : x < 12) : 2 ^ x < 65536 := Nat.lt_of_lt_of_le (Nat.pow_lt_pow_right (by omega) (show x < 16 by omega)) (by decide)
/-- A list has those numbers whose bits are set. -/
def Same (th : List Int) (a : Nat) : Prop := ∀ y : Int, y ∈ th ↔ ∃ i : Nat, y = (i : Int) ∧ a.testBit i = true
theorem mem_sort64 {l : List Int} {y : Int} : y ∈ sort64 l ↔ y ∈ l := (List.mergeSort_perm ..).mem_iff
theorem any_false {th ys : List Int} : anyIn th ys = false ↔ ∀ o ∈ ys, o ∉ th := by
  unfold anyIn
  rw [List.any_eq_false]
  constructor
  · intro h o ho g
    exact h o ho (by simpa using g)
  · intro h o ho g
    exact h o ho (by simpa using g)
theorem over_any {n : Int} {l : List S64} (h : okC n l = true) {a : Nat} (ha : a < 4096) {th : List Int} (ht : Same th a) {c : Nat} (hc : c < 12) : Go.bits .and .u16 (rd (maskL l) (c : Int)) a = 0 ↔ anyIn th (sort64 (coverF l c)) = false := by
  obtain ⟨v, hv, hlt, hb⟩ := (says_all l (in12 h)).2 c hc
  rw [hv, bits_and hlt (by omega), any_false]
  constructor
  · intro g o ho hm
    have g' : v &&& a = 0 := by omega
    obtain ⟨x, hx, e1, e2⟩ := coverF_mem.1 (mem_sort64.1 ho)
    obtain ⟨i, hi, ht'⟩ := (ht o).1 hm
    exact (and_zero _ _).1 g' i ⟨(hb i (bit_lt ha ht')).2 ⟨x, hx, e1, by rw [e2, hi]⟩, ht'⟩
  · intro g
    have : v &&& a = 0 := (and_zero _ _).2 (fun i hi => by
      have hi12 := bit_lt ha hi.2
      obtain ⟨x, hx, e1, e2⟩ := (hb i hi12).1 hi.1
      exact g (i : Int) (mem_sort64.2 (coverF_mem.2 ⟨x, hx, e1, e2⟩)) ((ht _).2 ⟨i, rfl, hi.2⟩))
    rw [this]; rfl
theorem listB_same {a : Nat} (ha : a < 4096) : Same (listB (a : Int)) a := fun y => by
  rw [listB_mem (by omega)]
  constructor
  · rintro ⟨i, _, h2, h3⟩
    exact ⟨i, h2, h3⟩
  · rintro ⟨i, h2, h3⟩
    exact ⟨i, bit_lt ha h3, h2, h3⟩
theorem lt_unique {r s : List Int} (hr : r.Pairwise (fun a b => a < b)) (hs : s.Pairwise (fun a b => a < b)) (h : ∀ x, x ∈ r ↔ x ∈ s) : r = s := by
  have nd : s.Nodup := hs.imp (fun h => by omega)
  rw [sort_unique hr nd h, ← sort_unique hs nd (fun _ => Iff.rfl)]
theorem freeL_lt {l : List S64} {th : List Int} (h : th.Pairwise (fun a b => a < b)) : (freeL l th).Pairwise (fun a b => a < b) := h.sublist List.filter_sublist
theorem freeL_mem {l : List S64} {th : List Int} {c : Int} : c ∈ freeL l th ↔ c ∈ th ∧ anyIn th (sort64 (coverF l c)) = false := by
  unfold freeL
  rw [List.mem_filter]
  constructor
  · rintro ⟨h1, h2⟩
    exact ⟨h1, by simpa using h2⟩
  · rintro ⟨h1, h2⟩
    exact ⟨h1, by simpa using h2⟩
theorem all_is {n : Int} (hn : 0 ≤ n ∧ n ≤ 12) : spec_l03All.f n = some ((2 ^ n.toNat - 1 : Nat) : Int) := by
  have key : ∀ k : Nat, k < 13 → spec_l03All.f (k : Int) = some ((2 ^ k - 1 : Nat) : Int) := by decide
  have := key n.toNat (by omega)
  rwa [show ((n.toNat : Nat) : Int) = n by omega] at this
theorem all_lt {k : Nat} (hk : k ≤ 12) : 2 ^ k - 1 < 4096 := by
  have : 2 ^ k ≤ 2 ^ 12 := Nat.pow_le_pow_right (by omega) hk
  have h : (2 : Nat) ^ 12 = 4096 := by decide
  omega
theorem cntI_listB {k : Nat} (hk : k ≤ 12) : cntI k = listB ((2 ^ k - 1 : Nat) : Int) := by
  refine lt_unique (cntI_lt k) (listB_lt _) (fun y => ?_)
  rw [cntI_mem, listB_same (all_lt hk) y]
  constructor
  · intro h
    exact ⟨y.toNat, by omega, by rw [Nat.testBit_two_pow_sub_one]; exact decide_eq_true (by omega)⟩
  · rintro ⟨i, rfl, hi⟩
    rw [Nat.testBit_two_pow_sub_one, decide_eq_true_iff] at hi
    omega
theorem freeL_length (l : List S64) (th : List Int) : (freeL l th).length ≤ th.length := List.length_filter_le _ _
theorem implFree_is {l : List S64} {th : List Int} (hl : l.length ≤ 1048576) (h8 : ∀ x ∈ l, InC x) (ht : th.length ≤ 1048576) : impl_free.f l th = some (freeL l th) := by
  unfold impl_free.f
  rw [if_pos ⟨hl, h8, ht⟩]

/-- The numbers of a list that lie not in another. -/
def lessL (th away : List Int) : List Int := th.filter (fun c => !away.contains c)
theorem contains64_k (l : List Int) (a : Int) (hl : l.length ≤ 1152921504606846976) (k : Nat) (hk : l.length < k) : slices_Contains_int64_int64.f k l a = some (l.contains a) := by
  obtain ⟨r, h1, h2⟩ := index64_l0 l a hl l.length 0 k (by omega) (by simp) hk
  unfold slices_Contains_int64_int64.f slices_Index_int64_int64.f
  rw [h1]
  simp only [Option.bind_some, Option.some.injEq]
  by_cases hr : r ≥ 0
  · rw [decide_eq_true hr]
    exact (h2.1 hr).symm
  · rw [decide_eq_false hr]
    cases hc : l.contains a with
    | false => rfl
    | true => exact absurd (h2.2 hc) hr
theorem lessL_mem {th away : List Int} {c : Int} : c ∈ lessL th away ↔ c ∈ th ∧ c ∉ away := by
  unfold lessL
  rw [List.mem_filter]
  constructor
  · rintro ⟨h1, h2⟩
    exact ⟨h1, by simpa using h2⟩
  · rintro ⟨h1, h2⟩
    exact ⟨h1, by simpa using h2⟩
theorem lessL_length (th away : List Int) : (lessL th away).length ≤ th.length := List.length_filter_le _ _
theorem lessL_short {th away : List Int} {c : Int} (h1 : c ∈ th) (h2 : c ∈ away) : (lessL th away).length < th.length := by
  unfold lessL
  exact List.length_filter_lt_length_iff_exists.2 ⟨c, h1, by simpa using h2⟩
theorem free_sub {l : List S64} {th : List Int} (h : freeL l th ≠ []) : (lessL th (freeL l th)).length < th.length := by
  obtain ⟨c, r, hc⟩ := List.exists_cons_of_ne_nil h
  have : c ∈ freeL l th := by rw [hc]; exact List.mem_cons_self
  exact lessL_short (freeL_mem.1 this).1 this
/-- A set without another. -/
theorem andNot_is {a b : Nat} (ha : a < 65536) (hb : b < 65536) : ∃ c : Nat, Go.bits .andNot .u16 (a : Int) (b : Int) = (c : Int) ∧ c ≤ a ∧ ∀ i, c.testBit i = true ↔ a.testBit i = true ∧ b.testBit i = false := by
  have hdef : Go.bits .andNot .u16 (a : Int) (b : Int) = IntKind.u16.wrap (((BitVec.ofInt 16 (a : Int) &&& ~~~ BitVec.ofInt 16 (b : Int)).toNat : Nat) : Int) := rfl
  obtain ⟨c, hc⟩ : ∃ c, c = (BitVec.ofInt 16 (a : Int) &&& ~~~ BitVec.ofInt 16 (b : Int)).toNat := ⟨_, rfl⟩
  have hlt : c < 65536 := by rw [hc]; exact BitVec.isLt _
  have hbit : ∀ i, c.testBit i = true ↔ a.testBit i = true ∧ b.testBit i = false := by
    intro i
    rw [hc, BitVec.testBit_toNat, BitVec.getLsbD_and, BitVec.getLsbD_not, BitVec.ofInt_natCast, BitVec.ofInt_natCast, BitVec.getLsbD_ofNat, BitVec.getLsbD_ofNat]
    by_cases hi : i < 16
    · rw [decide_eq_true hi]
      cases a.testBit i <;> cases b.testBit i <;> simp
    · have : a.testBit i = false := Nat.testBit_lt_two_pow (Nat.lt_of_lt_of_le ha (Nat.pow_le_pow_right (by omega) (show 16 ≤ i by omega) : 2 ^ 16 ≤ 2 ^ i))
      rw [decide_eq_false hi, this]
      simp
  refine ⟨c, by rw [hdef, ← hc, wu16 hlt], ?_, hbit⟩
  have e : a &&& c = c := by
    apply Nat.eq_of_testBit_eq
    intro i
    rw [Nat.testBit_and]
    cases h : c.testBit i with
    | false => simp
    | true => rw [((hbit i).1 h).1]; rfl
  rw [← e]
  exact Nat.and_le_left
theorem less_listB {a b : Nat} (ha : a < 4096) (hb : b < 4096) : ∃ c : Nat, Go.bits .andNot .u16 (a : Int) (b : Int) = (c : Int) ∧ c < 4096 ∧ listB (c : Int) = lessL (listB (a : Int)) (listB (b : Int)) := by
  obtain ⟨c, h1, h2, h3⟩ := andNot_is (show a < 65536 by omega) (show b < 65536 by omega)
  refine ⟨c, h1, by omega, lt_unique (listB_lt _) ((listB_lt _).sublist List.filter_sublist) (fun y => ?_)⟩
  rw [listB_same (show c < 4096 by omega) y, lessL_mem, listB_same ha y, listB_same hb y]
  constructor
  · rintro ⟨i, rfl, hi⟩
    obtain ⟨g1, g2⟩ := (h3 i).1 hi
    refine ⟨⟨i, rfl, g1⟩, ?_⟩
    rintro ⟨j, hj, g3⟩
    have : j = i := by omega
    rw [this, g2] at g3
    cases g3
  · rintro ⟨⟨i, rfl, g1⟩, g2⟩
    refine ⟨i, rfl, (h3 i).2 ⟨g1, ?_⟩⟩
    cases g : b.testBit i with
    | false => rfl
    | true => exact absurd ⟨i, rfl, g⟩ g2
theorem listB_nil {a : Nat} (ha : a < 4096) : listB (a : Int) = [] ↔ a = 0 := by
  constructor
  · intro h
    apply Nat.eq_of_testBit_eq
    intro i
    rw [Nat.zero_testBit]
    cases g : a.testBit i with
    | false => rfl
    | true =>
      have : (i : Int) ∈ listB (a : Int) := (listB_same ha _).2 ⟨i, rfl, g⟩
      rw [h] at this
      cases this
  · intro h
    subst h
    decide

theorem toInt64S_l0 (l : List Int) (hl : l.length ≤ 1152921504606846976) : ∀ (rest : List Int) (p k : Nat) (ys : List Int), l.drop p = rest → ys.length = l.length → rest.length < k →
    laws_toInt64S.l0 k l ys (p : Int) = some (ys.take p ++ rest) := by
  intro rest
  induction rest with
  | nil =>
    intro p k ys hd hy hk
    obtain ⟨k, rfl⟩ : ∃ m, k = m + 1 := ⟨k - 1, by simp at hk; omega⟩
    have := of_drop_nil hd
    simp only [laws_toInt64S.l0]
    rw [if_neg (by omega), List.take_of_length_le (by omega)]
    simp
  | cons x rest ih =>
    intro p k ys hd hy hk
    simp only [List.length_cons] at hk
    obtain ⟨k, rfl⟩ : ∃ m, k = m + 1 := ⟨k - 1, by omega⟩
    obtain ⟨hp, hd', hx⟩ := of_drop hd
    simp only [laws_toInt64S.l0, rd, hx, Option.bind_some]
    rw [if_pos (by omega), if_pos (by omega), if_pos (by omega), step64 hp hl, ih (p + 1) k _ hd' (by simpa using hy) (by omega), Int.toNat_natCast, take_set_at _ _ _ (by omega)]
    simp
theorem toInt64S_is (l : List Int) (hl : l.length * 8 ≤ 140737488351232) (k : Nat) (hk : l.length < k) : laws_toInt64S.f k l = some l := by
  unfold laws_toInt64S.f
  rw [if_pos (by omega), if_pos (by omega)]
  have := toInt64S_l0 l (by omega) l 0 k (List.replicate (l.length : Int).toNat 0) rfl (by simp) hk
  simpa using this

/-! The law's harness over a result that is a list of whole numbers. -/
theorem eqInt64S_l0 (l : List Int) (hl : l.length ≤ 1152921504606846976) : ∀ (rest : List Int) (p k : Nat), l.drop p = rest → rest.length < k → laws_eqInt64S.l0 k l l (p : Int) = some true := by
  intro rest
  induction rest with
  | nil =>
    intro p k hd hk
    obtain ⟨k, rfl⟩ : ∃ m, k = m + 1 := ⟨k - 1, by simp at hk; omega⟩
    have := of_drop_nil hd
    simp only [laws_eqInt64S.l0]
    rw [if_neg (by omega)]
  | cons x rest ih =>
    intro p k hd hk
    simp only [List.length_cons] at hk
    obtain ⟨k, rfl⟩ : ∃ m, k = m + 1 := ⟨k - 1, by omega⟩
    obtain ⟨hp, hd', hx⟩ := of_drop hd
    simp only [laws_eqInt64S.l0, if_true]
    rw [if_pos (by omega), if_pos (by omega), if_pos (by omega), step64 hp hl]
    exact ih (p + 1) k hd' (by omega)

theorem eqInt64S_is (l : List Int) (hl : l.length ≤ 1152921504606846976) (k : Nat) (hk : l.length < k) : laws_eqInt64S.f k l l = some true := by
  unfold laws_eqInt64S.f
  rw [if_pos rfl]
  exact eqInt64S_l0 l hl l 0 k rfl hk

/-- The law, in plain Lean. -/
def FnExactCanLeave.Said : Prop := ∀ (a0 : Int) (l1 : List S66) (l2 : List Int), (Lit.int .i64 a0).wf = true → l1.length ≤ maxLen → l1.length * 2 ≤ 140737488351232 → (∀ x ∈ l1, (Lit.int .i8 x.f0).wf = true ∧ (Lit.int .i8 x.f1).wf = true) → l2.length ≤ maxLen → l2.length * 8 ≤ 140737488351232 → (∀ x ∈ l2, (Lit.int .i64 x).wf = true) → ∃ k, laws_FnExactCanLeave.f k a0 l1 l2 = some true

/-- One after the other: does none lie over it of those that are left? -/
def canB (l : List S64) : List Int → Bool
  | [] => true
  | c :: r => if anyIn (c :: r) (sort64 (coverF l c)) = true then false else canB l r
/-- What both answer. -/
def canR (n : Int) (l : List S64) (o : List Int) : Bool × Int := if askC n l true = 0 then (if okE n.toNat o = true then (canB l o, 0) else (false, 4)) else (false, askC n l true)
theorem implCan_l0 {l : List S64} (hl : l.length ≤ 1048576) (h8 : ∀ x ∈ l, InC x) (o : List Int) (ho : o.length ≤ 1048576) : ∀ (rest : List Int) (p k : Nat), o.drop p = rest → rest.length + o.length + 1 < k → impl_CanLeave.l0 k l o o (o.length : Int) (p : Int) = some (canB l rest, 0) := by
  intro rest
  induction rest with
  | nil =>
    intro p k hd hk
    obtain ⟨k, rfl⟩ : ∃ m, k = m + 1 := ⟨k - 1, by omega⟩
    have := of_drop_nil hd
    simp only [impl_CanLeave.l0, canB]
    rw [if_neg (by omega)]
  | cons c rest ih =>
    intro p k hd hk
    simp only [List.length_cons] at hk
    obtain ⟨k, rfl⟩ : ∃ m, k = m + 1 := ⟨k - 1, by omega⟩
    obtain ⟨hp, hd', hx⟩ := of_drop hd
    have hlen : (c :: rest).length ≤ o.length := by rw [← hd]; simp
    simp only [impl_CanLeave.l0, rd, hx, canB]
    rw [if_pos (by omega), if_pos (by omega), if_pos (by omega), if_pos (by omega), Int.toNat_natCast, hd, implFree_is hl h8 (by omega)]
    simp only [Option.bind_some]
    have hfl := freeL_length l (c :: rest)
    rw [contains64_k _ c (by omega) k (by omega), step64 hp (by omega)]
    simp only [Option.bind_some]
    have hc : (freeL l (c :: rest)).contains c = !anyIn (c :: rest) (sort64 (coverF l c)) := by
      rw [Bool.eq_iff_iff]
      have := freeL_mem (l := l) (th := c :: rest) (c := c)
      simp only [List.contains_iff_mem, this, Bool.not_eq_true']
      constructor
      · exact fun h => h.2
      · exact fun h => ⟨List.mem_cons_self, h⟩
    rw [hc]
    cases anyIn (c :: rest) (sort64 (coverF l c)) with
    | true => rfl
    | false =>
      simp only [Bool.not_false, if_true, Bool.false_eq_true, if_false]
      exact ih (p + 1) k hd' (by omega)
theorem implCan_is (n : Int) (l : List S64) (o : List Int) (hl : l.length ≤ 1048576) (ho : o.length ≤ 1048576) (h8 : ∀ x ∈ l, InC x) (k : Nat) (hk : 2 * l.length + 2 * o.length + 40 < k) : impl_CanLeave.f k n l o = some (canR n l o) := by
  unfold impl_CanLeave.f canR
  rw [chainCode_is n l [] (by simp) hl h8 k (by simp; omega), decide_eq_true (show ∀ c ∈ ([] : List Int), 0 ≤ c ∧ c < n by simp)]
  simp only [Option.bind_some]
  split
  · rename_i h
    obtain ⟨h1, h2, _⟩ := okC_ok (askC_0 h).1
    unfold impl_isOrder.f
    rw [if_pos ⟨by omega, by omega, by omega⟩, sort_each]
    simp only [Option.bind_some]
    by_cases hok : okE n.toNat o = true
    · rw [if_pos hok, if_pos hok]
      exact implCan_l0 hl h8 o ho o 0 k rfl (by omega)
    · rw [if_neg hok, if_neg hok]
  · rfl
/-- A set of those that are left. -/
theorem can_same {n : Int} {l : List S64} (h : okC n l = true) : ∀ (o : List Int) (a : Nat), a < 4096 → o.Nodup → (∀ x ∈ o, 0 ≤ x ∧ x < 12) → Same o a → canM (maskL l) o (a : Int) = canB l o
  | [], a, _, _, _, _ => rfl
  | c :: r, a, ha, hn, h12, hs => by
    obtain ⟨n1, n2⟩ := List.nodup_cons.1 hn
    have hc := h12 c List.mem_cons_self
    obtain ⟨u, rfl⟩ : ∃ u : Nat, c = (u : Int) := ⟨c.toNat, by omega⟩
    have hu : u < 12 := by omega
    have hov := over_any h ha hs hu
    simp only [canM, canB]
    cases hq : anyIn ((u : Int) :: r) (sort64 (coverF l (u : Int))) with
    | true => rw [if_neg (fun g => by rw [hov.1 g] at hq; cases hq), if_pos rfl]
    | false =>
      have h2 : 2 ^ u < 65536 := two_lt hu
      obtain ⟨b, b1, b2, b3⟩ := andNot_is (show a < 65536 by omega) h2
      have e2 : (2 : Int) ^ u = ((2 ^ u : Nat) : Int) := by norm_cast
      have hb : IntKind.u16.wrap (2 ^ u) = ((2 ^ u : Nat) : Int) := by rw [e2, wu16 h2]
      rw [if_pos (hov.2 hq), if_neg (by simp), Int.toNat_natCast, hb, b1]
      refine can_same h r b (by omega) n2 (fun x hx => h12 x (List.mem_cons_of_mem _ hx)) (fun y => ?_)
      constructor
      · intro hy
        obtain ⟨i, rfl, hi⟩ := (hs y).1 (List.mem_cons_of_mem _ hy)
        refine ⟨i, rfl, (b3 i).2 ⟨hi, ?_⟩⟩
        rw [Nat.testBit_two_pow]
        exact decide_eq_false (fun e => by subst e; exact n1 hy)
      · rintro ⟨i, rfl, hi⟩
        obtain ⟨g1, g2⟩ := (b3 i).1 hi
        rcases List.mem_cons.1 ((hs (i : Int)).2 ⟨i, rfl, g1⟩) with e | e
        · have : i = u := by omega
          subst this
          rw [Nat.testBit_two_pow] at g2
          simp at g2
        · exact e
theorem specCan_is (n : Int) (l : List S64) (o : List Int) (hl : l.length ≤ 1048576) (ho : o.length ≤ 1048576) (h8 : ∀ x ∈ l, InC x) (k : Nat) (hk : l.length * (l.length + 4) + 13 < k) : spec_CanLeave.f k n l o = some (canR n l o) := by
  unfold spec_CanLeave.f canR
  rw [asked_is n l true hl h8 k (by omega)]
  simp only [Option.bind_some]
  split
  · rename_i h
    have hk := (askC_0 h).1
    obtain ⟨h1, h2, _⟩ := okC_ok hk
    rw [if_pos ⟨⟨hl, in12 hk⟩, ⟨h1, h2⟩, ho⟩, all_is ⟨h1, h2⟩]
    simp only [Option.bind_some]
    have hiff : ((o.length : Int) = n ∧ eachB n [] o = true) ↔ okE n.toNat o = true := by
      unfold okE
      rw [Bool.and_eq_true, decide_eq_true_iff, show ((n.toNat : Nat) : Int) = n by omega]
      constructor
      · exact fun g => ⟨g.2, by omega⟩
      · exact fun g => ⟨by omega, g.1⟩
    by_cases hok : okE n.toNat o = true
    · rw [if_pos (hiff.2 hok), if_pos hok]
      have he := (eachB_iff n o []).1 (hiff.2 hok).2
      have hlen := (hiff.2 hok).1
      have hc := cntI_listB (show n.toNat ≤ 12 by omega)
      have hp := perm_of_sub o (cntI n.toNat) he.2.1 (fun x hx => cntI_mem.2 (by have := he.1 x hx; omega)) (by rw [cntI_length]; omega)
      rw [can_same hk o _ (all_lt (by omega)) he.2.1 (fun x hx => by have := he.1 x hx; omega) (fun y => by
        rw [hp.mem_iff, hc]
        exact listB_same (all_lt (by omega)) y)]
    · rw [if_neg (fun g => hok (hiff.1 g)), if_neg hok]
  · rfl
theorem FnExactCanLeave : FnExactCanLeave.Said := by
  intro n l o hn hm hy hok hm' hy' hok'
  have hl : l.length ≤ 93824992236885 := by omega
  have hlm : (l.map cvC).length = l.length := List.length_map ..
  have h8 : ∀ x ∈ l.map cvC, InC x := by
    intro x hx
    obtain ⟨y, hy, rfl⟩ := List.mem_map.1 hx
    exact ⟨i8_in (hok y hy).1, i8_in (hok y hy).2⟩
  obtain ⟨Z, hZ⟩ : ∃ Z, Z = l.length * (l.length + 4) := ⟨_, rfl⟩
  refine ⟨Z + 3 * l.length + 3 * o.length + 60, ?_⟩
  unfold laws_FnExactCanLeave.f
  by_cases big0 : (o.length : Int) > 1048576
  · rw [if_pos big0]
  rw [if_neg big0, szCoverS_is l _ hl (by omega) (by omega)]
  simp only [Option.bind_some]
  by_cases big : (1048576 : Int) < l.length
  · rw [if_pos big]; rfl
  · rw [if_neg big, if_neg (by omega), toCoverS_is l hl _ (by omega)]
    simp only [Option.bind_some]
    rw [toInt64S_is o (by omega) _ (by omega)]
    simp only [Option.bind_some]
    rw [specCan_is n _ o (by omega) (by omega) h8 _ (by rw [hlm, ← hZ]; omega), implCan_is n _ o (by omega) (by omega) h8 _ (by omega)]
    simp only [Option.bind_some, bne_self_eq_false, laws_FnExactCanLeave.j0, Bool.false_eq_true, if_false]
    rw [toCoverS_is l hl _ (by omega), toInt64S_is o (by omega) _ (by omega)]
    simp only [Option.bind_some]
    rw [eqCoverS_is _ (by omega) _ (by omega)]
    simp only [Option.bind_some, if_true]
    rw [eqInt64S_is _ (by omega) _ (by omega)]
    simp

end Go.Proofs.Ytjcdgimldhodiaa.Pure
