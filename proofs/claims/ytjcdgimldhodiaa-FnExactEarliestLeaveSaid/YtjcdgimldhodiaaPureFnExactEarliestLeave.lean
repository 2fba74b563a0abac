/- The program's EarliestLeave returns what the reference's EarliestLeave returns, for all numbers of chains, all covers (of at most 2^20; longer lists the law lets by) and every chain. -/
import Derived.Test.YtjcdgimldhodiaaPFnExactEarliestLeavex9
namespace Go.Proofs.Ytjcdgimldhodiaa.Pure
open Go.RowKit Go.Proofs.Ytjcdgimldhodiaa.PFnExactEarliestLeave Go.Proofs.YtjcdgimldhodiaaW.PrintWords Go.Proofs.YtjcdgimldhodiaaW.PrintLast Go.Proofs.YtjcdgimldhodiaaW.PrintMore
set_option linter.unusedVariables false
set_option linter.unusedSimpArgs false

def cvC (x : S66) : S64 := ⟨x.f0, x.f1⟩

theorem toCoverS_l0 (l : List S66) (hl : l.length ≤ 1152921504606846976) : ∀ (rest : List S66) (p k : Nat) (ys : List S64), l.drop p = rest → ys.length = l.length → rest.length < k →
    laws_toCoverS.l0 k l ys (p : Int) = some (ys.take p ++ rest.map cvC) := by
  intro rest
  induction rest with
  | nil =>
    intro p k ys hd hy hk
    obtain ⟨k, rfl⟩ : ∃ m, k = m + 1 := ⟨k - 1, by simp at hk; omega⟩
    have := of_drop_nil hd
    simp only [laws_toCoverS.l0]
    rw [if_neg (by omega), List.take_of_length_le (by omega)]
    simp
  | cons x rest ih =>
    intro p k ys hd hy hk
    simp only [List.length_cons] at hk
    obtain ⟨k, rfl⟩ : ∃ m, k = m + 1 := ⟨k - 1, by omega⟩
    obtain ⟨hp, hd', hx⟩ := of_drop hd
    simp only [laws_toCoverS.l0, laws_toCover.f, rd_T66, hx, Option.bind_some]
    rw [if_pos (by omega), if_pos (by omega), if_pos (by omega), step64 hp hl, ih (p + 1) k _ hd' (by simpa using hy) (by omega), Int.toNat_natCast, take_set_at _ _ _ (by omega)]
    simp [cvC]

theorem toCoverS_is (l : List S66) (hl : l.length ≤ 93824992236885) (k : Nat) (hk : l.length < k) : laws_toCoverS.f k l = some (l.map cvC) := by
  unfold laws_toCoverS.f
  rw [if_pos (by omega), if_pos (by omega)]
  have := toCoverS_l0 l (by omega) l 0 k (List.replicate (l.length : Int).toNat z64) rfl (by simp) hk
  simpa using this

theorem eqCoverS_l0 (l : List S64) (hl : l.length ≤ 1152921504606846976) : ∀ (rest : List S64) (p k : Nat), l.drop p = rest → rest.length < k → laws_eqCoverS.l0 k l l (p : Int) = some true := by
  intro rest
  induction rest with
  | nil =>
    intro p k hd hk
    obtain ⟨k, rfl⟩ : ∃ m, k = m + 1 := ⟨k - 1, by simp at hk; omega⟩
    have := of_drop_nil hd
    simp only [laws_eqCoverS.l0]
    rw [if_neg (by omega)]
  | cons x rest ih =>
    intro p k hd hk
    simp only [List.length_cons] at hk
    obtain ⟨k, rfl⟩ : ∃ m, k = m + 1 := ⟨k - 1, by omega⟩
    obtain ⟨hp, hd', hx⟩ := of_drop hd
    simp only [laws_eqCoverS.l0, laws_eqCover.f, if_true, Option.bind_some]
    rw [if_pos (by omega), if_pos (by omega), if_pos (by omega), step64 hp hl]
    exact ih (p + 1) k hd' (by omega)

theorem eqCoverS_is (l : List S64) (hl : l.length ≤ 1152921504606846976) (k : Nat) (hk : l.length < k) : laws_eqCoverS.f k l l = some true := by
  unfold laws_eqCoverS.f
  rw [if_pos rfl]
  exact eqCoverS_l0 l hl l 0 k rfl hk

theorem szCoverS_is (l : List S66) (a : Int) (hl : l.length ≤ 93824992236885) (h0 : 0 ≤ a) (h1 : a ≤ 1048576) : laws_szCoverS.f l a = some (if a < l.length then -1 else a - l.length) := by
  unfold laws_szCoverS.f
  rw [w64_id (by omega)]
  by_cases h : a < l.length
  · rw [if_pos (by omega), if_pos h]
  · rw [if_neg (by omega), if_neg h]

theorem markCoverS_l0 : ∀ (n p k : Nat) (l : List S64) (a : Int), l.length ≤ 1048576 → l.length = p + n → n < k → 1 ≤ a → a ≤ 4000000 + 2 * p →
    ∃ ys : List S64, laws_markCoverS.l0 k l a (p : Int) = some (a + 2 * n, ys)
  | 0, p, k, l, a, hl, hn, hk, h0, h1 => by
    obtain ⟨k, rfl⟩ : ∃ m, k = m + 1 := ⟨k - 1, by omega⟩
    refine ⟨l, ?_⟩
    simp only [laws_markCoverS.l0]
    rw [if_neg (by omega)]
    simp
  | n + 1, p, k, l, a, hl, hn, hk, h0, h1 => by
    obtain ⟨k, rfl⟩ : ∃ m, k = m + 1 := ⟨k - 1, by omega⟩
    simp only [laws_markCoverS.l0, Option.bind_some]
    rw [if_pos (by omega), if_pos (by omega)]
    rw [w64_id (a := a + 1) (by omega), w64_id (a := a + 1 + 1) (by omega), step64 (show p < l.length by omega) (by omega)]
    have key : ∀ Y : List S64, Y.length = l.length → ∃ ys, laws_markCoverS.l0 k Y (a + 1 + 1) ((p + 1 : Nat) : Int) = some (a + 2 * ((n + 1 : Nat) : Int), ys) := by
      intro Y hY
      obtain ⟨ys, e⟩ := markCoverS_l0 n (p + 1) k Y (a + 1 + 1) (by omega) (by omega) (by omega) (by omega) (by omega)
      refine ⟨ys, ?_⟩
      rw [e]
      simp only [Option.some.injEq, Prod.mk.injEq, and_true]
      omega
    exact key _ (by simp)

theorem markCoverS_is (l : List S64) (a : Int) (hl : l.length ≤ 1048576) (h0 : 1 ≤ a) (h1 : a ≤ 4000000) (k : Nat) (hk : l.length < k) : ∃ ys, laws_markCoverS.f k l a = some (a + 2 * (l.length : Int), ys) := by
  unfold laws_markCoverS.f
  exact markCoverS_l0 l.length 0 k l a hl (by simp) hk h0 (by omega)

/-- What the masks say, of all bits. -/
def SaysX (m : List Int) (s : List S64) : Prop := m.length = 12 ∧ ∀ c : Nat, c < 12 → ∃ a : Nat, rd m (c : Int) = a ∧ a < 4096 ∧ ∀ i : Nat, (a.testBit i = true ↔ ∃ x ∈ s, x.f1 = (c : Int) ∧ x.f0 = (i : Int))
theorem saysX_zero : SaysX [0, 0, 0, 0, 0, 0, 0, 0, 0, 0, 0, 0] [] := by
  refine ⟨rfl, fun c hc => ⟨0, ?_, by omega, fun i => by simp⟩⟩
  have : ∀ c, c < 12 → rd [0, 0, 0, 0, 0, 0, 0, 0, 0, 0, 0, 0] ((c : Nat) : Int) = 0 := by decide
  exact this c hc
theorem saysX_or {m : List Int} {s : List S64} {x : S64} (h : SaysX m s) (h0 : 0 ≤ x.f0 ∧ x.f0 < 12) (h1 : 0 ≤ x.f1 ∧ x.f1 < 12) : SaysX (orS m x) (s ++ [x]) := by
  obtain ⟨u, hu⟩ : ∃ u : Nat, x.f1 = (u : Int) := ⟨x.f1.toNat, by omega⟩
  obtain ⟨v, hv⟩ : ∃ v : Nat, x.f0 = (v : Int) := ⟨x.f0.toNat, by omega⟩
  refine ⟨by rw [orS_length]; exact h.1, fun c hc => ?_⟩
  obtain ⟨a, ha, hlt, hb⟩ := h.2 c hc
  have hp : 2 ^ v < 4096 := by
    have := Nat.pow_lt_pow_right (a := 2) (by omega) (show v < 12 by omega)
    have h : (2 : Nat) ^ 12 = 4096 := by decide
    omega
  by_cases e : c = u
  · subst e
    refine ⟨a ||| 2 ^ v, ?_, Nat.or_lt_two_pow (n := 12) hlt hp, fun i => ?_⟩
    · unfold orS
      rw [hu, hv, Int.toNat_natCast, ha, one_bit (by omega), bits_or (by omega) (by omega), rd, Int.toNat_natCast, List.getD_eq_getElem?_getD, List.getElem?_set_self (by rw [h.1]; exact hc)]
      rfl
    · rw [Nat.testBit_or, Bool.or_eq_true, hb i, Nat.testBit_two_pow, decide_eq_true_iff]
      constructor
      · rintro (⟨y, hy, h2⟩ | h2)
        · exact ⟨y, List.mem_append_left _ hy, h2⟩
        · exact ⟨x, by simp, hu, by rw [hv, h2]⟩
      · rintro ⟨y, hy, h2⟩
        rcases List.mem_append.1 hy with hy | hy
        · exact .inl ⟨y, hy, h2⟩
        · rw [List.mem_singleton.1 hy] at h2
          right
          have := h2.2
          omega
  · refine ⟨a, ?_, hlt, fun i => ?_⟩
    · unfold orS
      rw [hu, Int.toNat_natCast, ← ha]
      simp only [rd, Int.toNat_natCast, List.getD_eq_getElem?_getD]
      rw [List.getElem?_set_ne (fun g => e g.symm)]
    · rw [hb i]
      constructor
      · rintro ⟨y, hy, h2⟩
        exact ⟨y, List.mem_append_left _ hy, h2⟩
      · rintro ⟨y, hy, h2⟩
        rcases List.mem_append.1 hy with hy | hy
        · exact ⟨y, hy, h2⟩
        · rw [List.mem_singleton.1 hy] at h2
          have := h2.1
          omega
theorem saysX_mask : ∀ (l s : List S64) (m : List Int), SaysX m s → (∀ x ∈ l, (0 ≤ x.f0 ∧ x.f0 < 12) ∧ (0 ≤ x.f1 ∧ x.f1 < 12)) → SaysX (l.foldl orS m) (s ++ l)
  | [], s, m, h, _ => by simpa using h
  | x :: l, s, m, h, hin => by
    have := saysX_mask l (s ++ [x]) (orS m x) (saysX_or h (hin x List.mem_cons_self).1 (hin x List.mem_cons_self).2) (fun y hy => hin y (List.mem_cons_of_mem _ hy))
    simpa using this
theorem saysX_all (l : List S64) (hin : ∀ x ∈ l, (0 ≤ x.f0 ∧ x.f0 < 12) ∧ (0 ≤ x.f1 ∧ x.f1 < 12)) : SaysX (maskL l) l := by
  have := saysX_mask l [] _ saysX_zero hin
  rw [List.nil_append] at this
  exact this

theorem listB_mem {a : Nat} (ha : a < 65536) {y : Int} : y ∈ listB (a : Int) ↔ ∃ i : Nat, i < 12 ∧ y = (i : Int) ∧ a.testBit i = true := by
  unfold listB
  rw [List.mem_filter, cntI_mem]
  constructor
  · rintro ⟨h1, h2⟩
    obtain ⟨i, rfl⟩ : ∃ i : Nat, y = (i : Int) := ⟨y.toNat, by omega⟩
    exact ⟨i, by omega, rfl, by rw [← bitI_is ha (by omega)]; exact h2⟩
  · rintro ⟨i, h1, rfl, h2⟩
    exact ⟨by omega, by rw [bitI_is ha h1]; exact h2⟩
theorem listB_lt (z : Int) : (listB z).Pairwise (fun a b => a < b) := (cntI_lt 12).sublist List.filter_sublist
theorem listB_length (z : Int) : (listB z).length ≤ 12 := Nat.le_trans (List.length_filter_le _ _) (by rw [cntI_length]; omega)
theorem in12 {n : Int} {l : List S64} (h : okC n l = true) : ∀ x ∈ l, (0 ≤ x.f0 ∧ x.f0 < 12) ∧ (0 ≤ x.f1 ∧ x.f1 < 12) := fun x hx => by
  obtain ⟨h1, h2, _, h4, _⟩ := okC_ok h
  have := h4 x hx
  omega
theorem listB_cover {n : Int} {l : List S64} (h : okC n l = true) {c : Int} (hc : 0 ≤ c ∧ c < n) : listB (rd (maskL l) c) = sort64 (coverF l c) := by
  obtain ⟨h1, h2, _, h4, h5⟩ := okC_ok h
  obtain ⟨u, rfl⟩ : ∃ u : Nat, c = (u : Int) := ⟨c.toNat, by omega⟩
  obtain ⟨a, ha, hlt, hb⟩ := (says_all l (in12 h)).2 u (by omega)
  refine sort_unique (listB_lt _) (coverF_nodup h5 _) (fun y => ?_)
  rw [ha, listB_mem hlt, coverF_mem]
  constructor
  · rintro ⟨i, hi, rfl, ht⟩
    exact (hb i hi).1 ht
  · rintro ⟨x, hx, g1, g2⟩
    have := (in12 h) x hx
    refine ⟨y.toNat, by omega, by omega, (hb y.toNat (by omega)).2 ⟨x, hx, g1, by omega⟩⟩

theorem l00In_n (n c : Int) (hn : 0 ≤ n ∧ n ≤ 12) : spec_l00In.f c 0 (wrap64 (n - 1)) = some (decide (0 ≤ c ∧ c < n)) := by
  rw [w64_id (by omega)]
  unfold spec_l00In.f
  split
  · exact some_dec (by omega)
  · exact some_decF (by omega)
theorem specOk_l1 (n : Int) (l : List S64) (hl : l.length ≤ 1048576) (p : Nat) (hp : p < l.length) (x : S64) : ∀ (m q k : Nat), q + m = p → m < k →
    spec_l03Ok.l1 k n l (p : Int) (q : Int) x.f0 x.f1 = if x ∈ (l.take p).drop q then some false else spec_l03Ok.l0 (k - m - 1) n l ((p + 1 : Nat) : Int) := by
  intro m
  induction m with
  | zero =>
    intro q k hq hk
    obtain ⟨k, rfl⟩ : ∃ m, k = m + 1 := ⟨k - 1, by omega⟩
    simp only [spec_l03Ok.l1]
    rw [if_neg (by omega), step64 hp (by omega), List.drop_eq_nil_of_le (by simp; omega), if_neg (by simp)]
    rfl
  | succ m ih =>
    intro q k hq hk
    obtain ⟨k, rfl⟩ : ∃ m, k = m + 1 := ⟨k - 1, by omega⟩
    have hql : q < l.length := by omega
    have r1 : rd_T64 l (q : Int) = l[q] := by
      rw [rd_T64, Int.toNat_natCast, List.getD_eq_getElem?_getD, List.getElem?_eq_getElem hql]; rfl
    have hd : (l.take p).drop q = l[q] :: (l.take p).drop (q + 1) := by
      rw [List.drop_eq_getElem_cons (by simp; omega)]
      simp
    simp only [spec_l03Ok.l1, r1]
    rw [if_pos (by omega), if_pos (by omega), if_pos (by omega), step64 hql (by omega), ih (q + 1) k (by omega) (by omega), hd]
    have e : k + 1 - (m + 1) - 1 = k - m - 1 := by omega
    rw [e]
    show (if samC l[q] x = true then _ else _) = _
    cases h : samC l[q] x with
    | true => rw [if_pos rfl, if_pos (by rw [samC_eq h]; simp)]
    | false =>
      have hne := samC_ne h
      rw [if_neg (by simp)]
      by_cases g : x ∈ (l.take p).drop (q + 1)
      · rw [if_pos g, if_pos (List.mem_cons_of_mem _ g)]
      · rw [if_neg g, if_neg (fun m => by rcases List.mem_cons.1 m with m | m; exact hne m.symm; exact g m)]
theorem specOk_l0 (n : Int) (hn : 0 ≤ n ∧ n ≤ 12) (l : List S64) (hl : l.length ≤ 1048576) (h8 : ∀ x ∈ l, InC x) : ∀ (rest : List S64) (p k : Nat), l.drop p = rest → rest.length * (l.length + 4) < k → spec_l03Ok.l0 k n l (p : Int) = some (okGo n (l.take p) rest) := by
  intro rest
  induction rest with
  | nil =>
    intro p k hd hk
    obtain ⟨k, rfl⟩ : ∃ m, k = m + 1 := ⟨k - 1, by omega⟩
    have := of_drop_nil hd
    simp only [spec_l03Ok.l0, okGo]
    rw [if_neg (by omega)]
  | cons y rest ih =>
    intro p k hd hk
    simp only [List.length_cons, Nat.succ_mul] at hk
    generalize hZ : rest.length * (l.length + 4) = Z at hk
    obtain ⟨k, rfl⟩ : ∃ m, k = m + 2 := ⟨k - 2, by omega⟩
    obtain ⟨hp, hd', hx⟩ := of_drop hd
    have hy : l[p] = y := by
      have := hx z64
      rw [Int.toNat_natCast, List.getD_eq_getElem?_getD, List.getElem?_eq_getElem hp] at this
      exact this
    have hin := h8 y (List.mem_of_mem_drop (by rw [hd]; exact List.mem_cons_self))
    have i0 := hin.1
    have i1 := hin.2
    have I := fun k' hk' => ih (p + 1) k' hd' hk'
    rw [List.take_succ_eq_append_getElem hp, hy] at I
    simp only [spec_l03Ok.l0, rd_T64, hx, okGo]
    rw [if_pos (by omega), if_pos (by omega), w64_id (a := y.f0) (by omega), w64_id (a := y.f1) (by omega), l00In_n n _ hn, l00In_n n _ hn]
    simp only [Option.bind_some]
    have bad : spec_l03Ok.j2 (k + 1) n l (p : Int) true y.f0 y.f1 = some false := by simp [spec_l03Ok.j2]
    by_cases h0 : 0 ≤ y.f0 ∧ y.f0 < n
    · rw [decide_eq_true h0, if_pos rfl]
      by_cases h1 : 0 ≤ y.f1 ∧ y.f1 < n
      · rw [decide_eq_true h1, if_pos rfl]
        by_cases h2 : y.f0 = y.f1
        · rw [beq_iff_eq.2 h2, bad, if_neg (fun g => g.2.2.1 h2)]
        · have e := specOk_l1 n l hl p hp y p 0 k (by omega) (by omega)
          have e' : spec_l03Ok.l1 k n l (p : Int) 0 y.f0 y.f1 = _ := e
          rw [beq_eq_false_iff_ne.2 h2]
          simp only [spec_l03Ok.j2, Bool.false_eq_true, if_false]
          rw [e', List.drop_zero]
          by_cases h3 : y ∈ l.take p
          · rw [if_pos h3, if_neg (fun g => g.2.2.2 h3)]
          · rw [if_neg h3, if_pos ⟨h0, h1, h2, h3⟩, I _ (by omega)]
      · rw [decide_eq_false h1, if_neg (by simp), bad, if_neg (fun g => h1 g.2.1)]
    · rw [decide_eq_false h0, if_neg (by simp), bad, if_neg (fun g => h0 g.1)]
theorem specOk_is (n : Int) (l : List S64) (hl : l.length ≤ 1048576) (h8 : ∀ x ∈ l, InC x) (k : Nat) (hk : l.length * (l.length + 4) + 1 < k) : spec_l03Ok.f k n l = some (okC n l) := by
  obtain ⟨k, rfl⟩ : ∃ m, k = m + 1 := ⟨k - 1, by omega⟩
  have e0 : spec_l00In.f n 0 12 = some (decide (0 ≤ n ∧ n ≤ 12)) := by
    unfold spec_l00In.f
    split
    · exact some_dec (by omega)
    · exact some_decF (by omega)
  unfold spec_l03Ok.f okC
  rw [e0]
  simp only [Option.bind_some]
  by_cases h0 : 0 ≤ n ∧ n ≤ 12
  · rw [decide_eq_true h0, if_pos rfl]
    simp only [spec_l03Ok.j0]
    by_cases h2 : (l.length : Int) > 60
    · rw [decide_eq_true h2, if_pos rfl, decide_eq_false (by omega)]; rfl
    · have e := specOk_l0 n h0 l hl h8 l 0 k rfl (by omega)
      have e' : spec_l03Ok.l0 k n l 0 = _ := e
      rw [decide_eq_false h2, if_neg (by simp), e', decide_eq_true (by omega)]; rfl
  · rw [decide_eq_false h0, if_neg (by simp), decide_eq_false (fun g => h0 ⟨g.1, g.2.1⟩)]
    simp [spec_l03Ok.j0]
/-- The code of covers, and whether a number is as told. -/
def askC (n : Int) (l : List S64) (fine : Bool) : Int := if okC n l = true then (if fine = true then 0 else 2) else 1
theorem asked_is (n : Int) (l : List S64) (fine : Bool) (hl : l.length ≤ 1048576) (h8 : ∀ x ∈ l, InC x) (k : Nat) (hk : l.length * (l.length + 4) + 1 < k) : spec_l03Asked.f k n l fine = some (askC n l fine) := by
  unfold spec_l03Asked.f askC
  rw [specOk_is n l hl h8 k hk]
  simp only [Option.bind_some]
  repeat' split
  all_goals rfl

theorem l00In_some (c a b : Int) : ∃ r, spec_l00In.f c a b = some r := by
  unfold spec_l00In.f
  split <;> exact ⟨_, rfl⟩
theorem asked_n (n : Int) (l : List S64) (c : Int) (b : Bool) (hb : spec_l00In.f c 0 (wrap64 (n - 1)) = some b) : askC n l b = askC n l (decide (0 ≤ c ∧ c < n)) := by
  unfold askC
  by_cases h : okC n l = true
  · rw [if_pos h, if_pos h]
    obtain ⟨h1, h2, _⟩ := okC_ok h
    rw [l00In_n n c ⟨h1, h2⟩, Option.some.injEq] at hb
    rw [hb]
  · rw [if_neg h, if_neg h]
theorem askC_0 {n : Int} {l : List S64} {b : Bool} (h : askC n l b = 0) : okC n l = true ∧ b = true := by
  unfold askC at h
  split at h
  · rename_i h1
    split at h
    · exact ⟨h1, by assumption⟩
    · omega
  · omega

theorem coverAt_l0 (l : List S64) (x : S64) (hl : l.length ≤ 1152921504606846976) : ∀ (rest : List S64) (p k : Nat), l.drop p = rest → rest.length < k → ∃ r : Int, impl_Cover_116.l0 k l (l.length : Int) (p : Int) x.f0 x.f1 = some r ∧ (r ≥ 0 ↔ x ∈ rest) := by
  intro rest
  induction rest with
  | nil =>
    intro p k hd hk
    obtain ⟨k, rfl⟩ : ∃ m, k = m + 1 := ⟨k - 1, by simp at hk; omega⟩
    have := of_drop_nil hd
    refine ⟨-1, ?_, by simp⟩
    simp only [impl_Cover_116.l0]
    rw [if_neg (by omega)]
  | cons y rest ih =>
    intro p k hd hk
    simp only [List.length_cons] at hk
    obtain ⟨k, rfl⟩ : ∃ m, k = m + 1 := ⟨k - 1, by omega⟩
    obtain ⟨hp, hd', hx⟩ := of_drop hd
    obtain ⟨r, hr1, hr2⟩ := ih (p + 1) k hd' (by omega)
    simp only [impl_Cover_116.l0, rd_T64, hx]
    rw [if_pos (by omega), if_pos (by omega), if_pos (by omega), step64 hp hl, hr1]
    show ∃ r_1, (if samC x y = true then some (p : Int) else some r) = some r_1 ∧ (r_1 ≥ 0 ↔ x ∈ y :: rest)
    cases h : samC x y with
    | true =>
      rw [if_pos rfl]
      exact ⟨p, rfl, ⟨fun _ => by rw [samC_eq h]; simp, fun _ => by omega⟩⟩
    | false =>
      rw [if_neg (by simp)]
      refine ⟨r, rfl, hr2.trans ?_⟩
      have := samC_ne h
      simp [this]
theorem coverHas_is (l : List S64) (x : S64) (hl : l.length ≤ 1152921504606846976) (k : Nat) (hk : l.length < k) : impl_Cover_101.f k l x.f0 x.f1 = some (decide (x ∈ l)) := by
  obtain ⟨r, h1, h2⟩ := coverAt_l0 l x hl l 0 k rfl hk
  unfold impl_Cover_101.f impl_Cover_116.f
  have h1' : impl_Cover_116.l0 k l (l.length : Int) 0 x.f0 x.f1 = some r := h1
  rw [h1']
  simp only [Option.bind_some]
  exact some_dec h2
theorem isChain_is (n c : Int) : impl_isChain.f n c = some (decide (0 ≤ c ∧ c < n)) := by
  unfold impl_isChain.f
  split
  · exact some_dec (by omega)
  · exact some_decF (by omega)
theorem validCovers_l0 (n : Int) (l : List S64) (hl : l.length ≤ 1048576) (h8 : ∀ x ∈ l, InC x) : ∀ (rest : List S64) (p k : Nat), l.drop p = rest → rest.length + l.length + 1 < k → impl_ValidCovers.l0 k n l l (l.length : Int) (p : Int) = some (okGo n (l.take p) rest) := by
  intro rest
  induction rest with
  | nil =>
    intro p k hd hk
    obtain ⟨k, rfl⟩ : ∃ m, k = m + 1 := ⟨k - 1, by omega⟩
    have := of_drop_nil hd
    simp only [impl_ValidCovers.l0, okGo]
    rw [if_neg (by omega)]
  | cons y rest ih =>
    intro p k hd hk
    simp only [List.length_cons] at hk
    obtain ⟨k, rfl⟩ : ∃ m, k = m + 1 := ⟨k - 1, by omega⟩
    obtain ⟨hp, hd', hx⟩ := of_drop hd
    have hy : l[p] = y := by
      have := hx z64
      rw [Int.toNat_natCast, List.getD_eq_getElem?_getD, List.getElem?_eq_getElem hp] at this
      exact this
    have hin := h8 y (List.mem_of_mem_drop (by rw [hd]; exact List.mem_cons_self))
    have i0 := hin.1
    have i1 := hin.2
    have I := ih (p + 1) k hd' (by omega)
    rw [List.take_succ_eq_append_getElem hp, hy] at I
    simp only [impl_ValidCovers.l0, rd_T64, hx, okGo]
    rw [if_pos (by omega), if_pos (by omega), if_pos (by omega), w64_id (a := y.f0) (by omega), w64_id (a := y.f1) (by omega), isChain_is, isChain_is]
    simp only [Option.bind_some]
    by_cases h0 : 0 ≤ y.f0 ∧ y.f0 < n
    · rw [decide_eq_true h0, if_pos rfl]
      by_cases h1 : 0 ≤ y.f1 ∧ y.f1 < n
      · rw [decide_eq_true h1, if_pos rfl]
        by_cases h2 : y.f0 = y.f1
        · rw [if_pos h2, if_neg (fun g => g.2.2.1 h2)]
        · rw [if_neg h2, if_pos (by omega), Int.toNat_natCast, coverHas_is (l.take p) y (by simp; omega) k (by simp; omega)]
          simp only [Option.bind_some]
          by_cases h3 : y ∈ l.take p
          · rw [decide_eq_true h3, if_pos rfl, if_neg (fun g => g.2.2.2 h3)]
          · rw [decide_eq_false h3, if_neg (by simp), if_pos ⟨h0, h1, h2, h3⟩, step64 hp (by omega), I]
      · rw [decide_eq_false h1, if_neg (by simp), if_neg (fun g => h1 g.2.1)]
    · rw [decide_eq_false h0, if_neg (by simp), if_neg (fun g => h0 g.1)]
theorem validCovers_is (n : Int) (l : List S64) (hl : l.length ≤ 1048576) (h8 : ∀ x ∈ l, InC x) (k : Nat) (hk : 2 * l.length + 2 < k) : impl_ValidCovers.f k n l = some (okC n l) := by
  obtain ⟨k, rfl⟩ : ∃ m, k = m + 1 := ⟨k - 1, by omega⟩
  unfold impl_ValidCovers.f okC
  by_cases h0 : n < 0
  · rw [if_pos h0, decide_eq_false (by omega)]
    simp [impl_ValidCovers.j0]
  · rw [if_neg h0]
    by_cases h1 : n > 12
    · rw [if_pos h1, decide_eq_false (by omega)]
      simp [impl_ValidCovers.j0]
    · rw [if_neg h1]
      simp only [impl_ValidCovers.j0]
      by_cases h2 : (l.length : Int) > 60
      · rw [decide_eq_true h2, if_pos rfl, decide_eq_false (by omega)]; rfl
      · have e := validCovers_l0 n l hl h8 l 0 k rfl (by omega)
        have e' : impl_ValidCovers.l0 k n l l (l.length : Int) 0 = _ := e
        rw [decide_eq_false h2, if_neg (by simp), e', decide_eq_true (by omega)]; rfl

theorem chainCode_l0 (n : Int) (cs : List Int) (hl : cs.length ≤ 1048576) : ∀ (rest : List Int) (p k : Nat), cs.drop p = rest → rest.length < k → impl_chainCode.l0 k n cs (cs.length : Int) (p : Int) = some (if ∀ c ∈ rest, 0 ≤ c ∧ c < n then 0 else 2) := by
  intro rest
  induction rest with
  | nil =>
    intro p k hd hk
    obtain ⟨k, rfl⟩ : ∃ m, k = m + 1 := ⟨k - 1, by omega⟩
    have := of_drop_nil hd
    simp only [impl_chainCode.l0]
    rw [if_neg (by omega), if_pos (by simp)]
  | cons y rest ih =>
    intro p k hd hk
    simp only [List.length_cons] at hk
    obtain ⟨k, rfl⟩ : ∃ m, k = m + 1 := ⟨k - 1, by omega⟩
    obtain ⟨hp, hd', hx⟩ := of_drop hd
    simp only [impl_chainCode.l0, rd, hx]
    rw [if_pos (by omega), if_pos (by omega), if_pos (by omega), isChain_is, step64 hp (by omega), ih (p + 1) k hd' (by omega)]
    simp only [Option.bind_some]
    by_cases h : 0 ≤ y ∧ y < n
    · rw [decide_eq_true h, if_pos rfl]
      by_cases g : ∀ c ∈ rest, 0 ≤ c ∧ c < n
      · rw [if_pos g, if_pos (fun c hc => by rcases List.mem_cons.1 hc with rfl | hc; exact h; exact g c hc)]
      · rw [if_neg g, if_neg (fun f => g (fun c hc => f c (List.mem_cons_of_mem _ hc)))]
    · rw [decide_eq_false h, if_neg (by simp), if_neg (fun f => h (f y List.mem_cons_self))]
theorem chainCode_is (n : Int) (l : List S64) (cs : List Int) (hc : cs.length ≤ 1048576) (hl : l.length ≤ 1048576) (h8 : ∀ x ∈ l, InC x) (k : Nat) (hk : 2 * l.length + cs.length + 2 < k) : impl_chainCode.f k n l cs = some (askC n l (decide (∀ c ∈ cs, 0 ≤ c ∧ c < n))) := by
  unfold impl_chainCode.f askC
  rw [validCovers_is n l hl h8 k (by omega)]
  simp only [Option.bind_some]
  by_cases h : okC n l = true
  · have e := chainCode_l0 n cs hc cs 0 k rfl (by omega)
    have e' : impl_chainCode.l0 k n cs (cs.length : Int) 0 = _ := e
    rw [if_pos h, if_pos h, e']
    by_cases g : ∀ c ∈ cs, 0 ≤ c ∧ c < n
    · rw [if_pos g, decide_eq_true g, if_pos rfl]
    · rw [if_neg g, decide_eq_false g, if_neg (by simp)]
  · rw [if_neg h, if_neg h]

theorem bits_and {a b : Nat} (ha : a < 65536) (hb : b < 65536) : Go.bits .and .u16 (a : Int) (b : Int) = ((a &&& b : Nat) : Int) := by
  have hab : a &&& b < 65536 := Nat.lt_of_le_of_lt Nat.and_le_left ha
  have : Go.bits .and .u16 (a : Int) (b : Int) = IntKind.u16.wrap (((BitVec.ofInt 16 (a : Int) &&& BitVec.ofInt 16 (b : Int)).toNat : Nat) : Int) := rfl
  rw [this, BitVec.toNat_and]
  have e : ∀ x : Nat, x < 65536 → (BitVec.ofInt 16 (x : Int)).toNat = x := fun x hx => by
    rw [BitVec.toNat_ofInt]
    omega
  rw [e a ha, e b hb, wu16 hab]
theorem and_zero (a b : Nat) : a &&& b = 0 ↔ ∀ i, ¬ (a.testBit i = true ∧ b.testBit i = true) := by
  constructor
  · intro h i g
    have : (a &&& b).testBit i = true := by rw [Nat.testBit_and, g.1, g.2]; rfl
    rw [h, Nat.zero_testBit] at this
    cases this
  · intro h
    apply Nat.eq_of_testBit_eq
    intro i
    rw [Nat.zero_testBit, Nat.testBit_and]
    cases h1 : a.testBit i with
    | false => rfl
    | true =>
      cases h2 : b.testBit i with
      | false => rfl
      | true => exact absurd ⟨h1, h2⟩ (h i)
theorem bit_lt {a i : Nat} (ha : a < 4096) (h : a.testBit i = true) : i < 12 := by
  rcases Nat.lt_or_ge i 12 with g | g
  · exact g
  · rw [Nat.testBit_lt_two_pow (Nat.lt_of_lt_of_le ha (Nat.pow_le_pow_right (by omega) g : 2 ^ 12 ≤ 2 ^ i))] at h
    cases h
theorem lt_of_bits {a : Nat} (h : ∀ i, a.testBit i = true → i < 12) : a < 4096 := by
  have : a < 2 ^ 12 := Nat.lt_pow_two_of_testBit a (fun i hi => by
    cases g : a.testBit i with
    | false => rfl
    | true => have := h i g; omega)
  exact this
theorem two_lt {x : Nat} (hx : x < 12) : 2 ^ x < 65536 := Nat.lt_of_lt_of_le (Nat.pow_lt_pow_right (by omega) (show x < 16 by omega)) (by decide)
theorem bitN_is {x : Nat} (hx : x < 12) : bitN x = ((2 ^ x : Nat) : Int) := by
  have e : (2 : Int) ^ x = ((2 ^ x : Nat) : Int) := by norm_cast
  unfold bitN
  rw [e, wu16 (two_lt hx)]
theorem has_bit {a x : Nat} (ha : a < 65536) (hx : x < 12) : Go.bits .and .u16 (a : Int) (bitN x) ≠ 0 ↔ a.testBit x = true := by
  rw [bitN_is hx, bits_and ha (two_lt hx)]
  constructor
  · intro h
    cases g : a.testBit x with
    | true => rfl
    | false =>
      exfalso
      apply h
      have : a &&& 2 ^ x = 0 := (and_zero _ _).2 (fun i hi => by
        rw [Nat.testBit_two_pow, decide_eq_true_iff] at hi
        rw [← hi.2, g] at hi
        cases hi.1)
      rw [this]; rfl
  · intro h g
    have g' : a &&& 2 ^ x = 0 := by omega
    exact (and_zero _ _).1 g' x ⟨h, by rw [Nat.testBit_two_pow]; simp⟩
theorem freeB_spec {m : List Int} (hm : ∀ c : Nat, c < 12 → ∃ a : Nat, rd m (c : Int) = a ∧ a < 65536) {s : Nat} (hs : s < 65536) : ∀ x : Nat, x ≤ 12 → ∃ b : Nat, freeB m s x = b ∧ b < 65536 ∧ ∀ i : Nat, b.testBit i = true ↔ i < x ∧ s.testBit i = true ∧ Go.bits .and .u16 (rd m (i : Int)) s = 0
  | 0, _ => ⟨0, rfl, by omega, fun i => by simp⟩
  | x + 1, hx => by
    obtain ⟨b, h1, h2, h3⟩ := freeB_spec hm hs x (by omega)
    by_cases c : Go.bits .and .u16 (s : Int) (bitN x) ≠ 0 ∧ Go.bits .and .u16 (rd m (x : Int)) s = 0
    · refine ⟨b ||| 2 ^ x, ?_, Nat.or_lt_two_pow (n := 16) h2 (two_lt (by omega)), fun i => ?_⟩
      · simp only [freeB]
        rw [if_pos c, h1, bitN_is (by omega), bits_or h2 (two_lt (by omega))]
      · rw [Nat.testBit_or, Bool.or_eq_true, h3, Nat.testBit_two_pow, decide_eq_true_iff]
        constructor
        · rintro (g | g)
          · exact ⟨by omega, g.2⟩
          · subst g
            exact ⟨by omega, (has_bit hs (by omega)).1 c.1, c.2⟩
        · rintro ⟨g1, g2⟩
          by_cases e : i = x
          · exact .inr e.symm
          · exact .inl ⟨by omega, g2⟩
    · refine ⟨b, ?_, h2, fun i => ?_⟩
      · simp only [freeB]
        rw [if_neg c, h1]
      · rw [h3]
        constructor
        · rintro ⟨g1, g2⟩
          exact ⟨by omega, g2⟩
        · rintro ⟨g1, g2⟩
          refine ⟨?_, g2⟩
          by_cases e : i = x
          · subst e
            exact absurd ⟨(has_bit hs (by omega)).2 g2.1, g2.2⟩ c
          · omega
/-- A list has those numbers whose bits are set. -/
def Same (th : List Int) (a : Nat) : Prop := ∀ y : Int, y ∈ th ↔ ∃ i : Nat, y = (i : Int) ∧ a.testBit i = true
theorem mem_sort64 {l : List Int} {y : Int} : y ∈ sort64 l ↔ y ∈ l := (List.mergeSort_perm ..).mem_iff
theorem any_false {th ys : List Int} : anyIn th ys = false ↔ ∀ o ∈ ys, o ∉ th := by
  unfold anyIn
  rw [List.any_eq_false]
  constructor
  · intro h o ho g
    exact h o ho (by simpa using g)
  · intro h o ho g
    exact h o ho (by simpa using g)
theorem over_any {n : Int} {l : List S64} (h : okC n l = true) {a : Nat} (ha : a < 4096) {th : List Int} (ht : Same th a) {c : Nat} (hc : c < 12) : Go.bits .and .u16 (rd (maskL l) (c : Int)) a = 0 ↔ anyIn th (sort64 (coverF l c)) = false := by
  obtain ⟨v, hv, hlt, hb⟩ := (says_all l (in12 h)).2 c hc
  rw [hv, bits_and hlt (by omega), any_false]
  constructor
  · intro g o ho hm
    have g' : v &&& a = 0 := by omega
    obtain ⟨x, hx, e1, e2⟩ := coverF_mem.1 (mem_sort64.1 ho)
    obtain ⟨i, hi, ht'⟩ := (ht o).1 hm
    exact (and_zero _ _).1 g' i ⟨(hb i (bit_lt ha ht')).2 ⟨x, hx, e1, by rw [e2, hi]⟩, ht'⟩
  · intro g
    have : v &&& a = 0 := (and_zero _ _).2 (fun i hi => by
      have hi12 := bit_lt ha hi.2
      obtain ⟨x, hx, e1, e2⟩ := (hb i hi12).1 hi.1
      exact g (i : Int) (mem_sort64.2 (coverF_mem.2 ⟨x, hx, e1, e2⟩)) ((ht _).2 ⟨i, rfl, hi.2⟩))
    rw [this]; rfl
theorem listB_same {a : Nat} (ha : a < 4096) : Same (listB (a : Int)) a := fun y => by
  rw [listB_mem (by omega)]
  constructor
  · rintro ⟨i, _, h2, h3⟩
    exact ⟨i, h2, h3⟩
  · rintro ⟨i, h2, h3⟩
    exact ⟨i, bit_lt ha h3, h2, h3⟩
theorem lt_unique {r s : List Int} (hr : r.Pairwise (fun a b => a < b)) (hs : s.Pairwise (fun a b => a < b)) (h : ∀ x, x ∈ r ↔ x ∈ s) : r = s := by
  have nd : s.Nodup := hs.imp (fun h => by omega)
  rw [sort_unique hr nd h, ← sort_unique hs nd (fun _ => Iff.rfl)]
theorem freeL_lt {l : List S64} {th : List Int} (h : th.Pairwise (fun a b => a < b)) : (freeL l th).Pairwise (fun a b => a < b) := h.sublist List.filter_sublist
theorem freeL_mem {l : List S64} {th : List Int} {c : Int} : c ∈ freeL l th ↔ c ∈ th ∧ anyIn th (sort64 (coverF l c)) = false := by
  unfold freeL
  rw [List.mem_filter]
  constructor
  · rintro ⟨h1, h2⟩
    exact ⟨h1, by simpa using h2⟩
  · rintro ⟨h1, h2⟩
    exact ⟨h1, by simpa using h2⟩
/-- What is free of a set, as a set. -/
theorem free_is {n : Int} {l : List S64} (h : okC n l = true) {a : Nat} (ha : a < 4096) : ∃ b : Nat, freeB (maskL l) (a : Int) 12 = (b : Int) ∧ b < 4096 ∧ (∀ i : Nat, b.testBit i = true → a.testBit i = true) ∧ listB (b : Int) = freeL l (listB (a : Int)) := by
  have S := says_all l (in12 h)
  obtain ⟨b, h1, h2, h3⟩ := freeB_spec (m := maskL l) (fun c hc => by obtain ⟨v, hv, hlt, _⟩ := S.2 c hc; exact ⟨v, hv, hlt⟩) (show a < 65536 by omega) 12 (by omega)
  have hb : b < 4096 := lt_of_bits (fun i hi => ((h3 i).1 hi).1)
  refine ⟨b, h1, hb, fun i hi => ((h3 i).1 hi).2.1, lt_unique (listB_lt _) (freeL_lt (listB_lt _)) (fun y => ?_)⟩
  rw [listB_same hb y, freeL_mem, listB_same ha y]
  constructor
  · rintro ⟨i, rfl, hi⟩
    obtain ⟨g1, g2, g3⟩ := (h3 i).1 hi
    exact ⟨⟨i, rfl, g2⟩, (over_any h ha (listB_same ha) g1).1 g3⟩
  · rintro ⟨⟨i, rfl, g2⟩, g3⟩
    have g1 := bit_lt ha g2
    exact ⟨i, rfl, (h3 i).2 ⟨g1, g2, (over_any h ha (listB_same ha) g1).2 g3⟩⟩
theorem all_is {n : Int} (hn : 0 ≤ n ∧ n ≤ 12) : spec_l03All.f n = some ((2 ^ n.toNat - 1 : Nat) : Int) := by
  have key : ∀ k : Nat, k < 13 → spec_l03All.f (k : Int) = some ((2 ^ k - 1 : Nat) : Int) := by decide
  have := key n.toNat (by omega)
  rwa [show ((n.toNat : Nat) : Int) = n by omega] at this
theorem all_lt {k : Nat} (hk : k ≤ 12) : 2 ^ k - 1 < 4096 := by
  have : 2 ^ k ≤ 2 ^ 12 := Nat.pow_le_pow_right (by omega) hk
  have h : (2 : Nat) ^ 12 = 4096 := by decide
  omega
theorem cntI_listB {k : Nat} (hk : k ≤ 12) : cntI k = listB ((2 ^ k - 1 : Nat) : Int) := by
  refine lt_unique (cntI_lt k) (listB_lt _) (fun y => ?_)
  rw [cntI_mem, listB_same (all_lt hk) y]
  constructor
  · intro h
    exact ⟨y.toNat, by omega, by rw [Nat.testBit_two_pow_sub_one]; exact decide_eq_true (by omega)⟩
  · rintro ⟨i, rfl, hi⟩
    rw [Nat.testBit_two_pow_sub_one, decide_eq_true_iff] at hi
    omega
theorem freeL_length (l : List S64) (th : List Int) : (freeL l th).length ≤ th.length := List.length_filter_le _ _
theorem implFree_is {l : List S64} {th : List Int} (hl : l.length ≤ 1048576) (h8 : ∀ x ∈ l, InC x) (ht : th.length ≤ 1048576) : impl_free.f l th = some (freeL l th) := by
  unfold impl_free.f
  rw [if_pos ⟨hl, h8, ht⟩]

theorem counting_l0 (n : Nat) (hn : n ≤ 1048576) : ∀ (m i k : Nat), i + m = n → m < k → impl_counting.l0 k (cntI i) (n : Int) (i : Int) = some (cntI n) := by
  intro m
  induction m with
  | zero =>
    intro i k hi hk
    obtain ⟨k, rfl⟩ : ∃ m, k = m + 1 := ⟨k - 1, by omega⟩
    simp only [impl_counting.l0]
    rw [if_neg (by omega), show i = n by omega]
  | succ m ih =>
    intro i k hi hk
    obtain ⟨k, rfl⟩ : ∃ m, k = m + 1 := ⟨k - 1, by omega⟩
    have hc : cntI i ++ [(i : Int)] = cntI (i + 1) := by simp [cntI, List.range_succ]
    simp only [impl_counting.l0]
    rw [if_pos (by omega), if_pos (by rw [cntI_length]; omega), step64 (show i < n by omega) (by omega), hc, ih (i + 1) k (by omega) (by omega)]
theorem counting_is (n : Nat) (hn : n ≤ 1048576) (k : Nat) (hk : n < k) : impl_counting.f k (n : Int) = some (cntI n) := by
  unfold impl_counting.f
  exact counting_l0 n hn n 0 k (by omega) hk

/-- The numbers of a list that lie not in another. -/
def lessL (th away : List Int) : List Int := th.filter (fun c => !away.contains c)
theorem contains64_k (l : List Int) (a : Int) (hl : l.length ≤ 1152921504606846976) (k : Nat) (hk : l.length < k) : slices_Contains_int64_int64.f k l a = some (l.contains a) := by
  obtain ⟨r, h1, h2⟩ := index64_l0 l a hl l.length 0 k (by omega) (by simp) hk
  unfold slices_Contains_int64_int64.f slices_Index_int64_int64.f
  rw [h1]
  simp only [Option.bind_some, Option.some.injEq]
  by_cases hr : r ≥ 0
  · rw [decide_eq_true hr]
    exact (h2.1 hr).symm
  · rw [decide_eq_false hr]
    cases hc : l.contains a with
    | false => rfl
    | true => exact absurd (h2.2 hc) hr
theorem less_l0 (th away : List Int) (ht : th.length ≤ 1048576) (ha : away.length ≤ 1048576) : ∀ (rest : List Int) (p k : Nat) (acc : List Int), th.drop p = rest → rest.length + away.length < k → acc.length ≤ p → impl_less.l0 k away acc th (th.length : Int) (p : Int) = some (acc ++ lessL rest away) := by
  intro rest
  induction rest with
  | nil =>
    intro p k acc hd hk hacc
    obtain ⟨k, rfl⟩ : ∃ m, k = m + 1 := ⟨k - 1, by omega⟩
    have := of_drop_nil hd
    simp only [impl_less.l0, lessL, List.filter_nil, List.append_nil]
    rw [if_neg (by omega)]
  | cons y rest ih =>
    intro p k acc hd hk hacc
    simp only [List.length_cons] at hk
    obtain ⟨k, rfl⟩ : ∃ m, k = m + 1 := ⟨k - 1, by omega⟩
    obtain ⟨hp, hd', hx⟩ := of_drop hd
    simp only [impl_less.l0, rd, hx]
    rw [if_pos (by omega), if_pos (by omega), if_pos (by omega), contains64_k away y (by omega) k (by omega), step64 hp (by omega)]
    simp only [Option.bind_some, lessL, List.filter_cons]
    cases hc : away.contains y with
    | true =>
      rw [if_pos rfl, ih (p + 1) k acc hd' (by omega) (by omega)]
      simp [lessL]
    | false =>
      rw [if_neg (by simp), if_pos (by omega), ih (p + 1) k (acc ++ [y]) hd' (by omega) (by simp; omega)]
      simp [lessL]
theorem less_is (th away : List Int) (ht : th.length ≤ 1048576) (ha : away.length ≤ 1048576) (k : Nat) (hk : th.length + away.length < k) : impl_less.f k th away = some (lessL th away) := by
  unfold impl_less.f
  have := less_l0 th away ht ha th 0 k [] rfl hk (by simp)
  simpa using this
theorem lessL_mem {th away : List Int} {c : Int} : c ∈ lessL th away ↔ c ∈ th ∧ c ∉ away := by
  unfold lessL
  rw [List.mem_filter]
  constructor
  · rintro ⟨h1, h2⟩
    exact ⟨h1, by simpa using h2⟩
  · rintro ⟨h1, h2⟩
    exact ⟨h1, by simpa using h2⟩
theorem lessL_length (th away : List Int) : (lessL th away).length ≤ th.length := List.length_filter_le _ _
theorem lessL_short {th away : List Int} {c : Int} (h1 : c ∈ th) (h2 : c ∈ away) : (lessL th away).length < th.length := by
  unfold lessL
  exact List.length_filter_lt_length_iff_exists.2 ⟨c, h1, by simpa using h2⟩
theorem free_sub {l : List S64} {th : List Int} (h : freeL l th ≠ []) : (lessL th (freeL l th)).length < th.length := by
  obtain ⟨c, r, hc⟩ := List.exists_cons_of_ne_nil h
  have : c ∈ freeL l th := by rw [hc]; exact List.mem_cons_self
  exact lessL_short (freeL_mem.1 this).1 this
/-- A set without another. -/
theorem andNot_is {a b : Nat} (ha : a < 65536) (hb : b < 65536) : ∃ c : Nat, Go.bits .andNot .u16 (a : Int) (b : Int) = (c : Int) ∧ c ≤ a ∧ ∀ i, c.testBit i = true ↔ a.testBit i = true ∧ b.testBit i = false := by
  have hdef : Go.bits .andNot .u16 (a : Int) (b : Int) = IntKind.u16.wrap (((BitVec.ofInt 16 (a : Int) &&& ~~~ BitVec.ofInt 16 (b : Int)).toNat : Nat) : Int) := rfl
  obtain ⟨c, hc⟩ : ∃ c, c = (BitVec.ofInt 16 (a : Int) &&& ~~~ BitVec.ofInt 16 (b : Int)).toNat := ⟨_, rfl⟩
  have hlt : c < 65536 := by rw [hc]; exact BitVec.isLt _
  have hbit : ∀ i, c.testBit i = true ↔ a.testBit i = true ∧ b.testBit i = false := by
    intro i
    rw [hc, BitVec.testBit_toNat, BitVec.getLsbD_and, BitVec.getLsbD_not, BitVec.ofInt_natCast, BitVec.ofInt_natCast, BitVec.getLsbD_ofNat, BitVec.getLsbD_ofNat]
    by_cases hi : i < 16
    · rw [decide_eq_true hi]
      cases a.testBit i <;> cases b.testBit i <;> simp
    · have : a.testBit i = false := Nat.testBit_lt_two_pow (Nat.lt_of_lt_of_le ha (Nat.pow_le_pow_right (by omega) (show 16 ≤ i by omega) : 2 ^ 16 ≤ 2 ^ i))
      rw [decide_eq_false hi, this]
      simp
  refine ⟨c, by rw [hdef, ← hc, wu16 hlt], ?_, hbit⟩
  have e : a &&& c = c := by
    apply Nat.eq_of_testBit_eq
    intro i
    rw [Nat.testBit_and]
    cases h : c.testBit i with
    | false => simp
    | true => rw [((hbit i).1 h).1]; rfl
  rw [← e]
  exact Nat.and_le_left
theorem less_listB {a b : Nat} (ha : a < 4096) (hb : b < 4096) : ∃ c : Nat, Go.bits .andNot .u16 (a : Int) (b : Int) = (c : Int) ∧ c < 4096 ∧ listB (c : Int) = lessL (listB (a : Int)) (listB (b : Int)) := by
  obtain ⟨c, h1, h2, h3⟩ := andNot_is (show a < 65536 by omega) (show b < 65536 by omega)
  refine ⟨c, h1, by omega, lt_unique (listB_lt _) ((listB_lt _).sublist List.filter_sublist) (fun y => ?_)⟩
  rw [listB_same (show c < 4096 by omega) y, lessL_mem, listB_same ha y, listB_same hb y]
  constructor
  · rintro ⟨i, rfl, hi⟩
    obtain ⟨g1, g2⟩ := (h3 i).1 hi
    refine ⟨⟨i, rfl, g1⟩, ?_⟩
    rintro ⟨j, hj, g3⟩
    have : j = i := by omega
    rw [this, g2] at g3
    cases g3
  · rintro ⟨⟨i, rfl, g1⟩, g2⟩
    refine ⟨i, rfl, (h3 i).2 ⟨g1, ?_⟩⟩
    cases g : b.testBit i with
    | false => rfl
    | true => exact absurd ⟨i, rfl, g⟩ g2
theorem listB_nil {a : Nat} (ha : a < 4096) : listB (a : Int) = [] ↔ a = 0 := by
  constructor
  · intro h
    apply Nat.eq_of_testBit_eq
    intro i
    rw [Nat.zero_testBit]
    cases g : a.testBit i with
    | false => rfl
    | true =>
      have : (i : Int) ∈ listB (a : Int) := (listB_same ha _).2 ⟨i, rfl, g⟩
      rw [h] at this
      cases this
  · intro h
    subst h
    decide

/-- Round by round: what is taken up, and what is left. -/
def roundsL (l : List S64) : Nat → List Int → List (List Int) × List Int
  | 0, th => ([], th)
  | k + 1, th => if freeL l th = [] then ([], th) else (freeL l th :: (roundsL l k (lessL th (freeL l th))).1, (roundsL l k (lessL th (freeL l th))).2)
theorem roundsL_same (l : List S64) : ∀ (k k' : Nat) (th : List Int), th.length < k → th.length < k' → roundsL l k th = roundsL l k' th
  | k + 1, k' + 1, th, h1, h2 => by
    rw [roundsL, roundsL]
    by_cases h : freeL l th = []
    · rw [if_pos h, if_pos h]
    · have := free_sub h
      rw [if_neg h, if_neg h, roundsL_same l k k' _ (by omega) (by omega)]
def roundsP (l : List S64) (th : List Int) : List (List Int) × List Int := roundsL l (th.length + 1) th
theorem roundsP_nil {l : List S64} {th : List Int} (h : freeL l th = []) : roundsP l th = ([], th) := by
  unfold roundsP
  rw [roundsL, if_pos h]
theorem roundsP_cons {l : List S64} {th : List Int} (h : freeL l th ≠ []) : roundsP l th = (freeL l th :: (roundsP l (lessL th (freeL l th))).1, (roundsP l (lessL th (freeL l th))).2) := by
  unfold roundsP
  rw [roundsL, if_neg h, roundsL_same l th.length ((lessL th (freeL l th)).length + 1) _ (free_sub h) (by omega)]
theorem rounds_l0 {l : List S64} (hl : l.length ≤ 1048576) (h8 : ∀ x ∈ l, InC x) : ∀ (k : Nat) (th : List Int) (acc : List (List Int)), 2 * th.length + 1 < k → acc.length + th.length ≤ 1048576 → impl_rounds.l0 k l th acc = some (acc ++ (roundsP l th).1, (roundsP l th).2)
  | 0, th, acc, hk, _ => by omega
  | k + 1, th, acc, hk, ha => by
    simp only [impl_rounds.l0]
    rw [implFree_is hl h8 (by omega)]
    simp only [Option.bind_some]
    by_cases h : freeL l th = []
    · rw [h, if_pos (by simp), roundsP_nil h, List.append_nil]
    · have hs := free_sub h
      have hfl := freeL_length l th
      have hpos := List.length_pos_iff.2 h
      rw [if_neg (by omega), if_pos (by omega), less_is th _ (by omega) (by omega) k (by omega)]
      simp only [Option.bind_some]
      rw [rounds_l0 hl h8 k _ _ (by omega) (by simp; omega), roundsP_cons h]
      simp
theorem rounds_is {l : List S64} (hl : l.length ≤ 1048576) (h8 : ∀ x ∈ l, InC x) (k : Nat) (th : List Int) (hk : 2 * th.length + 1 < k) (ht : th.length ≤ 1048576) : impl_rounds.f k l th = some (roundsP l th) := by
  unfold impl_rounds.f
  have := rounds_l0 hl h8 k th [] hk (by simp; omega)
  simpa using this
theorem locked_length (l : List S64) : ∀ (k : Nat) (th : List Int), (roundsL l k th).2.length ≤ th.length
  | 0, th => Nat.le_refl _
  | k + 1, th => by
    rw [roundsL]
    split
    · exact Nat.le_refl _
    · exact Nat.le_trans (locked_length l k _) (lessL_length _ _)

/-- What is locked of a set, as a set. -/
theorem lock_is {n : Int} {l : List S64} (h : okC n l = true) : ∀ (k a : Nat), a < 4096 → (listB (a : Int)).length < k → ∃ b : Nat, lockB (maskL l) k (a : Int) = some (b : Int) ∧ b < 4096 ∧ listB (b : Int) = (roundsP l (listB (a : Int))).2
  | 0, a, _, hk => by omega
  | k + 1, a, ha, hk => by
    obtain ⟨f, f1, f2, f3, f4⟩ := free_is h ha
    rw [lockB, f1]
    by_cases e : f = 0
    · subst e
      have hn : freeL l (listB (a : Int)) = [] := by rw [← f4]; decide
      exact ⟨a, by rw [if_pos (by omega)], ha, by rw [roundsP_nil hn]⟩
    · have hn : freeL l (listB (a : Int)) ≠ [] := fun g => e ((listB_nil f2).1 (f4.trans g))
      obtain ⟨c, c1, c2, c3⟩ := less_listB ha f2
      have hs := free_sub hn
      rw [if_neg (by omega), c1]
      rw [← f4] at hs
      obtain ⟨b, b1, b2, b3⟩ := lock_is h k c c2 (by rw [c3]; omega)
      refine ⟨b, b1, b2, ?_⟩
      rw [b3, roundsP_cons hn, c3, f4]
theorem locked_is {n : Int} {l : List S64} (h : okC n l = true) {a : Nat} (ha : a < 4096) (k : Nat) (hk : 12 < k) : ∃ b : Nat, spec_l03Locked.f k (maskL l) (a : Int) = some (b : Int) ∧ b < 4096 ∧ listB (b : Int) = (roundsP l (listB (a : Int))).2 := by
  unfold spec_l03Locked.f
  rw [if_pos (maskL_length l)]
  exact lock_is h k a ha (by have := listB_length (a : Int); omega)

/-- One lies over the other. -/
def Ov (l : List S64) (i j : Nat) : Prop := ∃ x ∈ l, x.f1 = (i : Int) ∧ x.f0 = (j : Int)
theorem bit_is {a k : Nat} (ha : a < 4096) : (Go.bits .and .u16 ((a : Int) / 2 ^ k) 1 = 1) ↔ a.testBit k = true := by
  have hlt : a / 2 ^ k < 65536 := Nat.lt_of_le_of_lt (Nat.div_le_self _ _) (by omega)
  have e : (a : Int) / 2 ^ k = ((a / 2 ^ k : Nat) : Int) := by norm_cast
  rw [e, bits_and1 hlt, Nat.testBit_eq_decide_div_mod_eq, decide_eq_true_iff]
  omega
theorem grow_spec {n : Int} {l : List S64} (h : okC n l = true) {a : Nat} (ha : a < 4096) : ∀ k : Nat, k ≤ 12 → ∃ b : Nat, grow (maskL l) (a : Int) k = (b : Int) ∧ b < 4096 ∧ (∀ i, a.testBit i = true → b.testBit i = true) ∧ (∀ i, i < k → a.testBit i = true → ∀ j : Nat, Ov l i j → b.testBit j = true) ∧ (∀ P : Nat → Prop, (∀ i j, P i → Ov l i j → P j) → (∀ i, a.testBit i = true → P i) → ∀ i, b.testBit i = true → P i)
  | 0, _ => ⟨a, rfl, ha, fun i h => h, fun i hi => by omega, fun P _ h => h⟩
  | k + 1, hk => by
    obtain ⟨b, h1, h2, h3, h4, h5⟩ := grow_spec h ha k (by omega)
    obtain ⟨v, g1, g2, g3⟩ := (saysX_all l (in12 h)).2 k (by omega)
    by_cases c : b.testBit k = true
    · refine ⟨b ||| v, ?_, Nat.or_lt_two_pow (n := 12) h2 g2, fun i hi => ?_, fun i hi ht j hj => ?_, fun P hP hA i hi => ?_⟩
      · simp only [grow]
        rw [h1, if_pos ((bit_is h2).2 c), g1, bits_or (by omega) (by omega)]
      · rw [Nat.testBit_or, h3 i hi, Bool.true_or]
      · rw [Nat.testBit_or, Bool.or_eq_true]
        by_cases e : i = k
        · subst e
          exact .inr ((g3 j).2 hj)
        · exact .inl (h4 i (by omega) ht j hj)
      · rw [Nat.testBit_or, Bool.or_eq_true] at hi
        rcases hi with hi | hi
        · exact h5 P hP hA i hi
        · exact hP k i (h5 P hP hA k c) ((g3 i).1 hi)
    · refine ⟨b, ?_, h2, h3, fun i hi ht j hj => ?_, h5⟩
      · simp only [grow]
        rw [h1, if_neg (fun g => c ((bit_is h2).1 g))]
      · by_cases e : i = k
        · subst e
          exact absurd (h3 i ht) c
        · exact h4 i (by omega) ht j hj
def ClosedB (l : List S64) (b : Nat) : Prop := ∀ i j, b.testBit i = true → Ov l i j → b.testBit j = true
theorem ov_lt {n : Int} {l : List S64} (h : okC n l = true) {i j : Nat} (g : Ov l i j) : i < 12 ∧ j < 12 := by
  obtain ⟨x, hx, e1, e2⟩ := g
  have := in12 h x hx
  omega
theorem listB_more {a b : Nat} (ha : a < 4096) (hb : b < 4096) (hs : ∀ i, a.testBit i = true → b.testBit i = true) {j : Nat} (hj : b.testBit j = true) (hn : ¬ a.testBit j = true) : (listB (a : Int)).length < (listB (b : Int)).length := by
  have nd : (listB (a : Int)).Nodup := (listB_lt _).imp (fun h => by omega)
  have := nodup_le ((j : Int) :: listB (a : Int)) (listB (b : Int)) (List.nodup_cons.2 ⟨fun m => by
    obtain ⟨i, e, hi⟩ := (listB_same ha _).1 m
    have : i = j := by omega
    exact hn (this ▸ hi), nd⟩) (fun y hy => by
    rcases List.mem_cons.1 hy with rfl | hy
    · exact (listB_same hb _).2 ⟨j, rfl, hj⟩
    · obtain ⟨i, rfl, hi⟩ := (listB_same ha _).1 hy
      exact (listB_same hb _).2 ⟨i, rfl, hs i hi⟩)
  rw [List.length_cons] at this
  omega
theorem growN_spec {n : Int} {l : List S64} (h : okC n l = true) {a : Nat} (ha : a < 4096) : ∀ r : Nat, ∃ b : Nat, growN (maskL l) (a : Int) r = (b : Int) ∧ b < 4096 ∧ (∀ i, a.testBit i = true → b.testBit i = true) ∧ (∀ P : Nat → Prop, (∀ i j, P i → Ov l i j → P j) → (∀ i, a.testBit i = true → P i) → ∀ i, b.testBit i = true → P i) ∧ (ClosedB l b ∨ r ≤ (listB (b : Int)).length)
  | 0 => ⟨a, rfl, ha, fun i h => h, fun P _ h => h, .inr (Nat.zero_le _)⟩
  | r + 1 => by
    obtain ⟨b, h1, h2, h3, h4, h5⟩ := growN_spec h ha r
    obtain ⟨c, g1, g2, g3, g4, g5⟩ := grow_spec h h2 12 (Nat.le_refl _)
    refine ⟨c, by rw [growN, h1, g1], g2, fun i hi => g3 i (h3 i hi), fun P hP hA => g5 P hP (h4 P hP hA), ?_⟩
    by_cases cl : ClosedB l b
    · left
      intro i j hi hj
      exact g3 j (cl i j (g5 (fun i => b.testBit i = true) (fun i j => cl i j) (fun i hi => hi) i hi) hj)
    · right
      unfold ClosedB at cl
      simp only [Classical.not_forall] at cl
      obtain ⟨i, j, hi, hj, hn⟩ := cl
      have hc := g4 i (ov_lt h hj).1 hi j hj
      have := listB_more h2 g2 g3 hc hn
      rcases h5 with h5 | h5
      · exact absurd (h5 i j hi hj) hn
      · omega
theorem all_bits {b : Nat} (hb : b < 4096) (h : 12 ≤ (listB (b : Int)).length) {j : Nat} (hj : j < 12) : b.testBit j = true := by
  have e : listB (b : Int) = cntI 12 := List.Sublist.eq_of_length_le (List.filter_sublist) (by rw [cntI_length]; exact h)
  have : (j : Int) ∈ listB (b : Int) := by rw [e]; exact cntI_mem.2 ⟨by omega, by omega⟩
  obtain ⟨i, e, hi⟩ := (listB_same hb _).1 this
  have : i = j := by omega
  exact this ▸ hi
/-- All that lies over one, over those, and so on. -/
theorem growN_is {n : Int} {l : List S64} (h : okC n l = true) {a : Nat} (ha : a < 4096) : ∃ b : Nat, growN (maskL l) (a : Int) 12 = (b : Int) ∧ b < 4096 ∧ (∀ i, a.testBit i = true → b.testBit i = true) ∧ (∀ P : Nat → Prop, (∀ i j, P i → Ov l i j → P j) → (∀ i, a.testBit i = true → P i) → ∀ i, b.testBit i = true → P i) ∧ ClosedB l b := by
  obtain ⟨b, h1, h2, h3, h4, h5⟩ := growN_spec h ha 12
  refine ⟨b, h1, h2, h3, h4, ?_⟩
  rcases h5 with h5 | h5
  · exact h5
  · intro i j hi hj
    exact all_bits h2 h5 (ov_lt h hj).2

/-! The law's harness over a result that is a list of whole numbers. -/
theorem eqInt64S_l0 (l : List Int) (hl : l.length ≤ 1152921504606846976) : ∀ (rest : List Int) (p k : Nat), l.drop p = rest → rest.length < k → laws_eqInt64S.l0 k l l (p : Int) = some true := by
  intro rest
  induction rest with
  | nil =>
    intro p k hd hk
    obtain ⟨k, rfl⟩ : ∃ m, k = m + 1 := ⟨k - 1, by simp at hk; omega⟩
    have := of_drop_nil hd
    simp only [laws_eqInt64S.l0]
    rw [if_neg (by omega)]
  | cons x rest ih =>
    intro p k hd hk
    simp only [List.length_cons] at hk
    obtain ⟨k, rfl⟩ : ∃ m, k = m + 1 := ⟨k - 1, by omega⟩
    obtain ⟨hp, hd', hx⟩ := of_drop hd
    simp only [laws_eqInt64S.l0, if_true]
    rw [if_pos (by omega), if_pos (by omega), if_pos (by omega), step64 hp hl]
    exact ih (p + 1) k hd' (by omega)

theorem eqInt64S_is (l : List Int) (hl : l.length ≤ 1152921504606846976) (k : Nat) (hk : l.length < k) : laws_eqInt64S.f k l l = some true := by
  unfold laws_eqInt64S.f
  rw [if_pos rfl]
  exact eqInt64S_l0 l hl l 0 k rfl hk

/-- 1, 2, 3, .. in place of every number. -/
def marks : Int → Nat → List Int
  | _, 0 => []
  | a, n + 1 => a :: marks (a + 1) n

theorem marks_length : ∀ (n : Nat) (a : Int), (marks a n).length = n
  | 0, _ => rfl
  | n + 1, a => by simp [marks, marks_length n]

theorem markInt64S_l0 : ∀ (n p k : Nat) (l : List Int) (a : Int), l.length ≤ 1152921504606846976 → l.length = p + n → n < k → 0 ≤ a → a ≤ 2305843009213693952 + p →
    laws_markInt64S.l0 k l a (p : Int) = some (a + n, l.take p ++ marks a n)
  | 0, p, k, l, a, hl, hn, hk, h0, h1 => by
    obtain ⟨k, rfl⟩ : ∃ m, k = m + 1 := ⟨k - 1, by omega⟩
    simp only [laws_markInt64S.l0, marks]
    rw [if_neg (by omega), List.take_of_length_le (by omega)]
    simp
  | n + 1, p, k, l, a, hl, hn, hk, h0, h1 => by
    obtain ⟨k, rfl⟩ : ∃ m, k = m + 1 := ⟨k - 1, by omega⟩
    simp only [laws_markInt64S.l0]
    rw [if_pos (by omega), if_pos (by omega), w64_id (by omega), step64 (show p < l.length by omega) hl, Int.toNat_natCast,
      markInt64S_l0 n (p + 1) k (l.set p a) (a + 1) (by simpa using hl) (by simp; omega) (by omega) (by omega) (by omega), take_set_at _ _ _ (by omega)]
    simp only [marks, Option.some.injEq, Prod.mk.injEq, List.append_assoc, List.singleton_append, and_true]
    omega

theorem markInt64S_is (l : List Int) (hl : l.length ≤ 1152921504606846976) (k : Nat) (hk : l.length < k) : laws_markInt64S.f k l 1 = some (1 + (l.length : Int), marks 1 l.length) := by
  unfold laws_markInt64S.f
  exact (markInt64S_l0 l.length 0 k l 1 hl (by simp) hk (by omega) (by omega)).trans (by rw [List.take_zero, List.nil_append])

theorem heldInt64S_l0 (l : List Int) (hl : l.length ≤ 1152921504606846976) : ∀ (n p k : Nat) (a : Int), l.length = p + n → l.drop p = marks a n → n < k → 0 ≤ a → a ≤ 2305843009213693952 + p →
    laws_heldInt64S.l0 k l a (p : Int) = some (a + n)
  | 0, p, k, a, hn, hd, hk, h0, h1 => by
    obtain ⟨k, rfl⟩ : ∃ m, k = m + 1 := ⟨k - 1, by omega⟩
    simp only [laws_heldInt64S.l0]
    rw [if_neg (by omega)]
    simp
  | n + 1, p, k, a, hn, hd, hk, h0, h1 => by
    obtain ⟨k, rfl⟩ : ∃ m, k = m + 1 := ⟨k - 1, by omega⟩
    obtain ⟨hp, hd', hx⟩ := of_drop hd
    simp only [laws_heldInt64S.l0, rd, hx, if_true]
    rw [if_pos (by omega), if_pos (by omega), w64_id (by omega), step64 hp hl, heldInt64S_l0 l hl n (p + 1) k (a + 1) (by omega) hd' (by omega) (by omega) (by omega)]
    simp only [Option.some.injEq]
    omega

theorem heldInt64S_is (n : Nat) (hl : n ≤ 1152921504606846976) (k : Nat) (hk : n < k) : laws_heldInt64S.f k (marks 1 n) 1 = some (1 + (n : Int)) := by
  unfold laws_heldInt64S.f
  exact heldInt64S_l0 (marks 1 n) (by rw [marks_length]; exact hl) n 0 k 1 (by rw [marks_length]; simp) rfl hk (by omega) (by omega)

/-- The law, in plain Lean. -/
def FnExactEarliestLeave.Said : Prop := ∀ (a0 : Int) (l1 : List S66) (a2 : Int), (Lit.int .i64 a0).wf = true → l1.length ≤ maxLen → l1.length * 2 ≤ 140737488351232 → (∀ x ∈ l1, (Lit.int .i8 x.f0).wf = true ∧ (Lit.int .i8 x.f1).wf = true) → (Lit.int .i64 a2).wf = true → ∃ k, laws_FnExactEarliestLeave.f k a0 l1 a2 = some true

/-- Those of a list that are new are laid to others. -/
def addN (out ys : List Int) : List Int := ys.foldl (fun o y => if o.contains y then o else o ++ [y]) out
theorem addN_spec : ∀ (ys out : List Int), out.Nodup → (addN out ys).Nodup ∧ (∀ y, y ∈ addN out ys ↔ y ∈ out ∨ y ∈ ys) ∧ ∃ r, addN out ys = out ++ r
  | [], out, h => ⟨h, fun y => by simp [addN], [], by simp [addN]⟩
  | x :: ys, out, h => by
    unfold addN
    rw [List.foldl_cons]
    by_cases c : out.contains x = true
    · rw [if_pos c]
      obtain ⟨h1, h2, r, h3⟩ := addN_spec ys out h
      refine ⟨h1, fun y => ?_, r, h3⟩
      have := h2 y
      unfold addN at this
      rw [this, List.mem_cons]
      constructor
      · rintro (g | g)
        · exact .inl g
        · exact .inr (.inr g)
      · rintro (g | g | g)
        · exact .inl g
        · exact .inl (by rw [g]; simpa using c)
        · exact .inr g
    · rw [if_neg c]
      have hx : x ∉ out := by simpa using c
      obtain ⟨h1, h2, r, h3⟩ := addN_spec ys (out ++ [x]) (List.nodup_append.2 ⟨h, by simp, fun a ha b hb e => by
        rw [List.mem_singleton.1 hb] at e
        exact hx (e ▸ ha)⟩)
      refine ⟨h1, fun y => ?_, x :: r, by unfold addN at h3; rw [h3, List.append_assoc]; rfl⟩
      have := h2 y
      unfold addN at this
      rw [this, List.mem_append, List.mem_singleton, List.mem_cons, or_assoc]
theorem early_l1 (l : List S64) (c : Int) (i : Nat) (hi : i ≤ 1000) (ys : List Int) (hy : ys.length ≤ 1000) : ∀ (rest : List Int) (p k : Nat) (out : List Int), ys.drop p = rest → rest.length + out.length + rest.length + 1 < k → out.length + rest.length ≤ 2000 →
    impl_EarliestLeave.l1 k l out (c :: out) (i : Int) ys (ys.length : Int) (p : Int) = impl_EarliestLeave.l0 (k - rest.length - 1) l (addN out rest) (c :: addN out rest) ((i + 1 : Nat) : Int) := by
  intro rest
  induction rest with
  | nil =>
    intro p k out hd hk ho
    obtain ⟨k, rfl⟩ : ∃ m, k = m + 1 := ⟨k - 1, by omega⟩
    have := of_drop_nil hd
    simp only [impl_EarliestLeave.l1, addN, List.foldl_nil]
    rw [if_neg (by omega), step64 (show i < 1001 by omega) (by omega)]
    rfl
  | cons y rest ih =>
    intro p k out hd hk ho
    simp only [List.length_cons] at hk ho ⊢
    obtain ⟨k, rfl⟩ : ∃ m, k = m + 1 := ⟨k - 1, by omega⟩
    obtain ⟨hp, hd', hx⟩ := of_drop hd
    have e : k + 1 - (rest.length + 1) - 1 = k - rest.length - 1 := by omega
    simp only [impl_EarliestLeave.l1, rd, hx, addN, List.foldl_cons]
    rw [if_pos (by omega), if_pos (by omega), if_pos (by omega), contains64_k out y (by omega) k (by omega), step64 hp (by omega), e]
    simp only [Option.bind_some]
    cases hc : out.contains y with
    | true =>
      rw [if_pos rfl, if_pos rfl, ih (p + 1) k out hd' (by omega) (by omega)]
      rfl
    | false =>
      have h1 : (out ++ [y]).length = out.length + 1 := by simp
      simp only [Bool.false_eq_true, if_false]
      rw [if_pos (by omega), if_pos (by rw [List.length_cons]; omega), List.cons_append, ih (p + 1) k (out ++ [y]) hd' (by omega) (by omega)]
      rfl
theorem early_l0 {n : Int} {l : List S64} (h : okC n l = true) (h8 : ∀ x ∈ l, InC x) (c : Int) : ∀ (m i k : Nat) (out : List Int), m + i = 14 → m * 200 + 200 < k → i ≤ out.length + 1 → out.Nodup → (∀ o ∈ out, 0 ≤ o ∧ o < 12) →
    (∀ P : Int → Prop, (∀ y ∈ coverF l c, P y) → (∀ x y, P x → y ∈ coverF l x → P y) → ∀ o ∈ out, P o) →
    (∀ (j : Nat) (x : Int), j < i → (c :: out)[j]? = some x → ∀ y ∈ coverF l x, y ∈ out) →
    ∃ out', impl_EarliestLeave.l0 k l out (c :: out) (i : Int) = some (sort64 out', 0) ∧ out'.Nodup ∧ (∀ P : Int → Prop, (∀ y ∈ coverF l c, P y) → (∀ x y, P x → y ∈ coverF l x → P y) → ∀ o ∈ out', P o) ∧ (∀ y ∈ coverF l c, y ∈ out') ∧ (∀ x ∈ out', ∀ y ∈ coverF l x, y ∈ out')
  | 0, i, k, out, hm, _, hi, hn, h12, _, _ => by
    have := nodup_le out (cntI 12) hn (fun o ho => cntI_mem.2 (h12 o ho))
    rw [cntI_length] at this
    omega
  | m + 1, i, k, out, hm, hk, hi, hn, h12, hr, hd => by
    have hol := nodup_le out (cntI 12) hn (fun o ho => cntI_mem.2 (h12 o ho))
    rw [cntI_length] at hol
    obtain ⟨h1, h2, h3, h4, h5⟩ := okC_ok h
    obtain ⟨k, rfl⟩ : ∃ m, k = m + 1 := ⟨k - 1, by omega⟩
    simp only [impl_EarliestLeave.l0]
    by_cases hlt : i < (c :: out).length
    · obtain ⟨x, hx⟩ : ∃ x, (c :: out)[i]? = some x := ⟨_, List.getElem?_eq_getElem hlt⟩
      have hrd : rd (c :: out) (i : Int) = x := by
        rw [rd, Int.toNat_natCast, List.getD_eq_getElem?_getD, hx]
        rfl
      have hfl : (sort64 (coverF l x)).length ≤ 60 := by
        rw [sort64_length, coverF, List.length_map]
        exact Nat.le_trans (List.length_filter_le _ _) h3
      rw [if_pos (by omega), if_pos (by omega), hrd, coveredBy_is l x (by omega) h8 k (by omega)]
      simp only [Option.bind_some]
      have e := early_l1 l c i (by omega) (sort64 (coverF l x)) (by omega) (sort64 (coverF l x)) 0 k out rfl (by omega) (by omega)
      have e' : impl_EarliestLeave.l1 k l out (c :: out) (i : Int) (sort64 (coverF l x)) ((sort64 (coverF l x)).length : Int) 0 = _ := e
      rw [e']
      obtain ⟨a1, a2, r, a3⟩ := addN_spec (sort64 (coverF l x)) out hn
      have hmem : ∀ y, y ∈ addN out (sort64 (coverF l x)) ↔ y ∈ out ∨ y ∈ coverF l x := fun y => by rw [a2 y, mem_sort64]
      have hx' : x = c ∨ x ∈ out := by
        have := List.mem_of_getElem? hx
        rcases List.mem_cons.1 this with g | g
        · exact .inl g
        · exact .inr g
      refine early_l0 h h8 c m (i + 1) _ _ (by omega) (by omega) ?_ a1 ?_ ?_ ?_
      · rw [a3, List.length_append]
        rw [List.length_cons] at hlt
        omega
      · intro o ho
        rcases (hmem o).1 ho with g | g
        · exact h12 o g
        · obtain ⟨z, hz, e1, e2⟩ := coverF_mem.1 g
          have := in12 h z hz
          omega
      · intro P hP hS o ho
        rcases (hmem o).1 ho with g | g
        · exact hr P hP hS o g
        · rcases hx' with rfl | hx'
          · exact hP o g
          · exact hS x o (hr P hP hS x hx') g
      · intro j y hj hy z hz
        rw [a3, ← List.cons_append] at hy
        by_cases e : j = i
        · subst e
          rw [List.getElem?_append_left hlt, hx] at hy
          rw [← Option.some.inj hy] at hz
          exact (hmem z).2 (.inr hz)
        · rw [List.getElem?_append_left (by omega)] at hy
          exact (hmem z).2 (.inl (hd j y (by omega) hy z hz))
    · rw [if_neg (by omega)]
      unfold slices_Sort_int64_int64.f
      rw [if_pos (by omega)]
      refine ⟨out, rfl, hn, hr, fun y hy => hd 0 c (by rw [List.length_cons] at hlt; omega) rfl y hy, fun x hx y hy => ?_⟩
      obtain ⟨j, hj, e⟩ := List.getElem_of_mem hx
      refine hd (j + 1) x (by rw [List.length_cons] at hlt; omega) ?_ y hy
      rw [List.getElem?_cons_succ, List.getElem?_eq_getElem hj, e]
/-- What both answer. -/
def earlyR (n : Int) (l : List S64) (c : Int) : List Int × Int := if askC n l (decide (0 ≤ c ∧ c < n)) = 0 then (if (roundsP l (cntI n.toNat)).2.contains c = true then ([], 6) else (listB (growN (maskL l) (rd (maskL l) c) 12), 0)) else ([], askC n l (decide (0 ≤ c ∧ c < n)))
theorem earlyR_length (n : Int) (l : List S64) (c : Int) : (earlyR n l c).1.length ≤ 12 := by
  unfold earlyR
  split
  · split
    · simp
    · exact listB_length _
  · simp
theorem early_same {n : Int} {l : List S64} (h : okC n l = true) {c : Int} (hc : 0 ≤ c ∧ c < n) {out : List Int} (hn : out.Nodup) (hr : ∀ P : Int → Prop, (∀ y ∈ coverF l c, P y) → (∀ x y, P x → y ∈ coverF l x → P y) → ∀ o ∈ out, P o) (h0 : ∀ y ∈ coverF l c, y ∈ out) (hs : ∀ x ∈ out, ∀ y ∈ coverF l x, y ∈ out) : sort64 out = listB (growN (maskL l) (rd (maskL l) c) 12) := by
  obtain ⟨h1, h2, _⟩ := okC_ok h
  obtain ⟨u, rfl⟩ : ∃ u : Nat, c = (u : Int) := ⟨c.toNat, by omega⟩
  obtain ⟨a, g1, g2, g3⟩ := (saysX_all l (in12 h)).2 u (by omega)
  obtain ⟨b, e1, e2, e3, e4, e5⟩ := growN_is h g2
  have ov : ∀ i j : Nat, Ov l i j ↔ (j : Int) ∈ coverF l (i : Int) := fun i j => coverF_mem.symm
  have nat : ∀ (x y : Int), y ∈ coverF l x → ∃ j : Nat, y = (j : Int) := fun x y hy => by
    obtain ⟨z, hz, _, e⟩ := coverF_mem.1 hy
    have := in12 h z hz
    exact ⟨y.toNat, by omega⟩
  rw [g1, e1]
  refine (sort_unique (listB_lt _) hn (fun y => ?_)).symm
  rw [listB_same e2 y]
  constructor
  · rintro ⟨i, rfl, hi⟩
    exact e4 (fun i => (i : Int) ∈ out) (fun i j hi hj => hs _ hi _ ((ov i j).1 hj)) (fun i hi => h0 _ ((ov u i).1 ((g3 i).1 hi))) i hi
  · intro hy
    refine hr (fun y => ∃ i : Nat, y = (i : Int) ∧ b.testBit i = true) (fun y hy => ?_) (fun x y hx hy => ?_) y hy
    · obtain ⟨j, rfl⟩ := nat _ _ hy
      exact ⟨j, rfl, e3 j ((g3 j).2 ((ov u j).2 hy))⟩
    · obtain ⟨i, rfl, hi⟩ := hx
      obtain ⟨j, rfl⟩ := nat _ _ hy
      exact ⟨j, rfl, e5 i j hi ((ov i j).2 hy)⟩
theorem implEarly_is (n : Int) (l : List S64) (c : Int) (hl : l.length ≤ 1048576) (h8 : ∀ x ∈ l, InC x) (k : Nat) (hk : 2 * l.length + 4000 < k) : impl_EarliestLeave.f k n l c = some (earlyR n l c) := by
  unfold impl_EarliestLeave.f earlyR
  rw [chainCode_is n l [c] (by simp) hl h8 k (by simp; omega)]
  have e : decide (∀ x ∈ [c], 0 ≤ x ∧ x < n) = decide (0 ≤ c ∧ c < n) := decide_eq_decide.2 (by simp)
  rw [e]
  simp only [Option.bind_some]
  split
  · rename_i h
    obtain ⟨ho, hc⟩ := askC_0 h
    have hc := of_decide_eq_true hc
    obtain ⟨h1, h2, _⟩ := okC_ok ho
    have := counting_is n.toNat (by omega) k (by omega)
    rw [show ((n.toNat : Nat) : Int) = n by omega] at this
    rw [this]
    simp only [Option.bind_some]
    have hcl := locked_length l ((cntI n.toNat).length + 1) (cntI n.toNat)
    have hcl' : (roundsP l (cntI n.toNat)).2.length ≤ (cntI n.toNat).length := hcl
    rw [cntI_length] at hcl'
    rw [rounds_is hl h8 k _ (by rw [cntI_length]; omega) (by rw [cntI_length]; omega)]
    simp only [Option.bind_some]
    rw [contains64_k _ c (by omega) k (by omega)]
    simp only [Option.bind_some]
    by_cases hk' : (roundsP l (cntI n.toNat)).2.contains c = true
    · rw [if_pos hk', if_pos hk']
    · rw [if_neg hk', if_neg hk']
      obtain ⟨out, o1, o2, o3, o4, o5⟩ := early_l0 ho h8 c 14 0 k [] rfl (by omega) (by simp) (by simp) (by simp) (by simp) (by simp)
      have o1' : impl_EarliestLeave.l0 k l [] [c] 0 = _ := o1
      rw [o1', early_same ho hc o2 o3 o4 o5]
  · rfl
theorem specEarly_is (n : Int) (l : List S64) (c : Int) (hl : l.length ≤ 1048576) (h8 : ∀ x ∈ l, InC x) (k : Nat) (hk : l.length * (l.length + 4) + 13 < k) : spec_EarliestLeave.f k n l c = some (earlyR n l c) := by
  obtain ⟨b, hb⟩ := l00In_some c 0 (wrap64 (n - 1))
  unfold spec_EarliestLeave.f earlyR
  rw [hb]
  simp only [Option.bind_some]
  rw [asked_is n l b hl h8 k (by omega), asked_n n l c b hb]
  simp only [Option.bind_some]
  split
  · rename_i h
    obtain ⟨ho, hc⟩ := askC_0 h
    have hc := of_decide_eq_true hc
    obtain ⟨h1, h2, _⟩ := okC_ok ho
    obtain ⟨u, e1, e2, e3⟩ := locked_is ho (all_lt (k := n.toNat) (by omega)) k (by omega)
    rw [if_pos ⟨⟨hl, in12 ho⟩, hc.1, by omega⟩, all_is ⟨h1, h2⟩]
    simp only [Option.bind_some]
    rw [e1]
    simp only [Option.bind_some]
    rw [← cntI_listB (by omega)] at e3
    have hiff : (Go.bits .and .u16 ((u : Int) / 2 ^ c.toNat) 1 = 1) ↔ (roundsP l (cntI n.toNat)).2.contains c = true := by
      rw [bit_is e2, ← e3]
      constructor
      · intro g
        have : c ∈ listB (u : Int) := (listB_same e2 c).2 ⟨c.toNat, by omega, g⟩
        simpa using this
      · intro g
        have g' : c ∈ listB (u : Int) := by simpa using g
        obtain ⟨i, e, hi⟩ := (listB_same e2 c).1 g'
        rw [show c.toNat = i by omega]
        exact hi
    by_cases hk' : (roundsP l (cntI n.toNat)).2.contains c = true
    · rw [if_pos (hiff.2 hk'), if_pos hk']
    · rw [if_neg (fun g => hk' (hiff.1 g)), if_neg hk']
  · rfl
theorem FnExactEarliestLeave : FnExactEarliestLeave.Said := by
  intro n l c hn hm hy hok hc
  have hl : l.length ≤ 93824992236885 := by omega
  have hlm : (l.map cvC).length = l.length := List.length_map ..
  have h8 : ∀ x ∈ l.map cvC, InC x := by
    intro x hx
    obtain ⟨y, hy, rfl⟩ := List.mem_map.1 hx
    exact ⟨i8_in (hok y hy).1, i8_in (hok y hy).2⟩
  obtain ⟨Z, hZ⟩ : ∃ Z, Z = l.length * (l.length + 4) := ⟨_, rfl⟩
  refine ⟨Z + 3 * l.length + 5000, ?_⟩
  unfold laws_FnExactEarliestLeave.f
  rw [szCoverS_is l _ hl (by omega) (by omega)]
  simp only [Option.bind_some]
  by_cases big : (1048576 : Int) < l.length
  · rw [if_pos big]; rfl
  · rw [if_neg big, if_neg (by omega), toCoverS_is l hl _ (by omega)]
    simp only [Option.bind_some]
    have hr := earlyR_length n (l.map cvC) c
    generalize hR : earlyR n (l.map cvC) c = R at hr
    rw [specEarly_is n _ c (by omega) h8 _ (by rw [hlm, ← hZ]; omega), implEarly_is n _ c (by omega) h8 _ (by omega), hR]
    simp only [Option.bind_some]
    rw [eqInt64S_is _ (by omega) _ (by omega)]
    simp only [Option.bind_some, if_true, bne_self_eq_false, laws_FnExactEarliestLeave.j0, Bool.false_eq_true, if_false]
    rw [toCoverS_is l hl _ (by omega)]
    simp only [Option.bind_some]
    rw [eqCoverS_is _ (by omega) _ (by omega)]
    simp only [Option.bind_some, if_true]
    obtain ⟨ys, e⟩ := markCoverS_is (l.map cvC) 1 (by omega) (by omega) (by omega) (Z + 3 * l.length + 4999) (by omega)
    rw [e]
    simp only [Option.bind_some]
    rw [if_neg (by omega), eqInt64S_is _ (by omega) _ (by omega)]
    simp only [Option.bind_some, if_true, laws_FnExactEarliestLeave.j1, Bool.false_eq_true, if_false]
    rw [markInt64S_is _ (by omega) _ (by omega)]
    simp only [Option.bind_some]
    rw [heldInt64S_is _ (by omega) _ (by omega)]
    simp only [Option.bind_some, if_true]
    rw [if_neg (by omega), toCoverS_is l hl _ (by omega)]
    simp only [Option.bind_some]
    rw [implEarly_is n _ c (by omega) h8 _ (by omega), hR]
    simp only [Option.bind_some]
    rw [eqInt64S_is _ (by omega) _ (by omega)]
    simp only [Option.bind_some, if_true, bne_self_eq_false, laws_FnExactEarliestLeave.j2, Bool.false_eq_true, if_false]
    rw [heldInt64S_is _ (by omega) _ (by omega)]
    simp only [Option.bind_some, if_true]
    rw [if_neg (by omega)]

end Go.Proofs.Ytjcdgimldhodiaa.Pure
