/- The program's FewestSlipped returns what the reference's FewestSlipped returns, for all numbers of chains and all covers (of at most 2^20; longer lists the law lets by). -/
import Derived.Test.YtjcdgimldhodiaaPFnExactFewestSlippedx10
namespace Go.Proofs.Ytjcdgimldhodiaa.Pure
open Go.RowKit Go.Proofs.Ytjcdgimldhodiaa.PFnExactFewestSlipped Go.Proofs.YtjcdgimldhodiaaW.PrintWords Go.Proofs.YtjcdgimldhodiaaW.PrintLast Go.Proofs.YtjcdgimldhodiaaW.PrintMore
set_option linter.unusedVariables false
set_option linter.unusedSimpArgs false

theorem l00In_n (n c : Int) (hn : 0 ≤ n ∧ n ≤ 12) : spec_l00In.f c 0 (wrap64 (n - 1)) = some (decide (0 ≤ c ∧ c < n)) := by
  rw [w64_id (by omega)]
  unfold spec_l00In.f
  split
  · exact some_dec (by omega)
  · exact some_decF (by omega)
theorem specOk_l1 (n : Int) (l : List S64) (hl : l.length ≤ 1048576) (p : Nat) (hp : p < l.length) (x : S64) : ∀ (m q k : Nat), q + m = p → m < k →
    spec_l03Ok.l1 k n l (p : Int) (q : Int) x.f0 x.f1 = if x ∈ (l.take p).drop q then some false else spec_l03Ok.l0 (k - m - 1) n l ((p + 1 : Nat) : Int) := by
  intro m
  induction m with
  | zero =>
    intro q k hq hk
    obtain ⟨k, rfl⟩ : ∃ m, k = m + 1 := ⟨k - 1, by omega⟩
    simp only [spec_l03Ok.l1]
    rw [if_neg (by omega), step64 hp (by omega), List.drop_eq_nil_of_le (by simp; omega), if_neg (by simp)]
    rfl
  | succ m ih =>
    intro q k hq hk
    obtain ⟨k, rfl⟩ : ∃ m, k = m + 1 := ⟨k - 1, by omega⟩
    have hql : q < l.length := by omega
    have r1 : rd_T64 l (q : Int) = l[q] := by
      rw [rd_T64, Int.toNat_natCast, List.getD_eq_getElem?_getD, List.getElem?_eq_getElem hql]; rfl
    have hd : (l.take p).drop q = l[q] :: (l.take p).drop (q + 1) := by
      rw [List.drop_eq_getElem_cons (by simp; omega)]
      simp
    simp only [spec_l03Ok.l1, r1]
    rw [if_pos (by omega), if_pos (by omega), if_pos (by omega), step64 hql (by omega), ih (q + 1) k (by omega) (by omega), hd]
    have e : k + 1 - (m + 1) - 1 = k - m - 1 := by omega
    rw [e]
    show (if samC l[q] x = true then _ else _) = _
    cases h : samC l[q] x with
    | true => rw [if_pos rfl, if_pos (by rw [samC_eq h]; simp)]
    | false =>
      have hne := samC_ne h
      rw [if_neg (by simp)]
      by_cases g : x ∈ (l.take p).drop (q + 1)
      · rw [if_pos g, if_pos (List.mem_cons_of_mem _ g)]
      · rw [if_neg g, if_neg (fun m => by rcases List.mem_cons.1 m with m | m; exact hne m.symm; exact g m)]
theorem specOk_l0 (n : Int) (hn : 0 ≤ n ∧ n ≤ 12) (l : List S64) (hl : l.length ≤ 1048576) (h8 : ∀ x ∈ l, InC x) : ∀ (rest : List S64) (p k : Nat), l.drop p = rest → rest.length * (l.length + 4) < k → spec_l03Ok.l0 k n l (p : Int) = some (okGo n (l.take p) rest) := by
  intro rest
  induction rest with
  | nil =>
    intro p k hd hk
    obtain ⟨k, rfl⟩ : ∃ m, k = m + 1 := ⟨k - 1, by omega⟩
    have := of_drop_nil hd
    simp only [spec_l03Ok.l0, okGo]
    rw [if_neg (by omega)]
  | cons y rest ih =>
    intro p k hd hk
    simp only [List.length_cons, Nat.succ_mul] at hk
    generalize hZ : rest.length * (l.length + 4) = Z at hk
    obtain ⟨k, rfl⟩ : ∃ m, k = m + 2 := ⟨k - 2, by omega⟩
    obtain ⟨hp, hd', hx⟩ := of_drop hd
    have hy : l[p] = y := by
      have := hx z64
      rw [Int.toNat_natCast, List.getD_eq_getElem?_getD, List.getElem?_eq_getElem hp] at this
      exact this
    have hin := h8 y (List.mem_of_mem_drop (by rw [hd]; exact List.mem_cons_self))
    have i0 := hin.1
    have i1 := hin.2
    have I := fun k' hk' => ih (p + 1) k' hd' hk'
    rw [List.take_succ_eq_append_getElem hp, hy] at I
    simp only [spec_l03Ok.l0, rd_T64, hx, okGo]
    rw [if_pos (by omega), if_pos (by omega), w64_id (a := y.f0) (by omega), w64_id (a := y.f1) (by omega), l00In_n n _ hn, l00In_n n _ hn]
    simp only [Option.bind_some]
    have bad : spec_l03Ok.j2 (k + 1) n l (p : Int) true y.f0 y.f1 = some false := by simp [spec_l03Ok.j2]
    by_cases h0 : 0 ≤ y.f0 ∧ y.f0 < n
    · rw [decide_eq_true h0, if_pos rfl]
      by_cases h1 : 0 ≤ y.f1 ∧ y.f1 < n
      · rw [decide_eq_true h1, if_pos rfl]
        by_cases h2 : y.f0 = y.f1
        · rw [beq_iff_eq.2 h2, bad, if_neg (fun g => g.2.2.1 h2)]
        · have e := specOk_l1 n l hl p hp y p 0 k (by omega) (by omega)
          have e' : spec_l03Ok.l1 k n l (p : Int) 0 y.f0 y.f1 = _ := e
          rw [beq_eq_false_iff_ne.2 h2]
          simp only [spec_l03Ok.j2, Bool.false_eq_true, if_false]
          rw [e', List.drop_zero]
          by_cases h3 : y ∈ l.take p
          · rw [if_pos h3, if_neg (fun g => g.2.2.2 h3)]
          · rw [if_neg h3, if_pos ⟨h0, h1, h2, h3⟩, I _ (by omega)]
      · rw [decide_eq_false h1, if_neg (by simp), bad, if_neg (fun g => h1 g.2.1)]
    · rw [decide_eq_false h0, if_neg (by simp), bad, if_neg (fun g => h0 g.1)]
theorem specOk_is (n : Int) (l : List S64) (hl : l.length ≤ 1048576) (h8 : ∀ x ∈ l, InC x) (k : Nat) (hk : l.length * (l.length + 4) + 1 < k) : spec_l03Ok.f k n l = some (okC n l) := by
  obtain ⟨k, rfl⟩ : ∃ m, k = m + 1 := ⟨k - 1, by omega⟩
  have e0 : spec_l00In.f n 0 12 = some (decide (0 ≤ n ∧ n ≤ 12)) := by
    unfold spec_l00In.f
    split
    · exact some_dec (by omega)
    · exact some_decF (by omega)
  unfold spec_l03Ok.f okC
  rw [e0]
  simp only [Option.bind_some]
  by_cases h0 : 0 ≤ n ∧ n ≤ 12
  · rw [decide_eq_true h0, if_pos rfl]
    simp only [spec_l03Ok.j0]
    by_cases h2 : (l.length : Int) > 60
    · rw [decide_eq_true h2, if_pos rfl, decide_eq_false (by omega)]; rfl
    · have e := specOk_l0 n h0 l hl h8 l 0 k rfl (by omega)
      have e' : spec_l03Ok.l0 k n l 0 = _ := e
      rw [decide_eq_false h2, if_neg (by simp), e', decide_eq_true (by omega)]; rfl
  · rw [decide_eq_false h0, if_neg (by simp), decide_eq_false (fun g => h0 ⟨g.1, g.2.1⟩)]
    simp [spec_l03Ok.j0]
/-- The code of covers, and whether a number is as told. -/
def askC (n : Int) (l : List S64) (fine : Bool) : Int := if okC n l = true then (if fine = true then 0 else 2) else 1
theorem asked_is (n : Int) (l : List S64) (fine : Bool) (hl : l.length ≤ 1048576) (h8 : ∀ x ∈ l, InC x) (k : Nat) (hk : l.length * (l.length + 4) + 1 < k) : spec_l03Asked.f k n l fine = some (askC n l fine) := by
  unfold spec_l03Asked.f askC
  rw [specOk_is n l hl h8 k hk]
  simp only [Option.bind_some]
  repeat' split
  all_goals rfl

theorem l00In_some (c a b : Int) : ∃ r, spec_l00In.f c a b = some r := by
  unfold spec_l00In.f
  split <;> exact ⟨_, rfl⟩
theorem asked_n (n : Int) (l : List S64) (c : Int) (b : Bool) (hb : spec_l00In.f c 0 (wrap64 (n - 1)) = some b) : askC n l b = askC n l (decide (0 ≤ c ∧ c < n)) := by
  unfold askC
  by_cases h : okC n l = true
  · rw [if_pos h, if_pos h]
    obtain ⟨h1, h2, _⟩ := okC_ok h
    rw [l00In_n n c ⟨h1, h2⟩, Option.some.injEq] at hb
    rw [hb]
  · rw [if_neg h, if_neg h]
theorem askC_0 {n : Int} {l : List S64} {b : Bool} (h : askC n l b = 0) : okC n l = true ∧ b = true := by
  unfold askC at h
  split at h
  · rename_i h1
    split at h
    · exact ⟨h1, by assumption⟩
    · omega
  · omega

theorem coverAt_l0 (l : List S64) (x : S64) (hl : l.length ≤ 1152921504606846976) : ∀ (rest : List S64) (p k : Nat), l.drop p = rest → rest.length < k → ∃ r : Int, impl_Cover_116.l0 k l (l.length : Int) (p : Int) x.f0 x.f1 = some r ∧ (r ≥ 0 ↔ x ∈ rest) := by
  intro rest
  induction rest with
  | nil =>
    intro p k hd hk
    obtain ⟨k, rfl⟩ : ∃ m, k = m + 1 := ⟨k - 1, by simp at hk; omega⟩
    have := of_drop_nil hd
    refine ⟨-1, ?_, by simp⟩
    simp only [impl_Cover_116.l0]
    rw [if_neg (by omega)]
  | cons y rest ih =>
    intro p k hd hk
    simp only [List.length_cons] at hk
    obtain ⟨k, rfl⟩ : ∃ m, k = m + 1 := ⟨k - 1, by omega⟩
    obtain ⟨hp, hd', hx⟩ := of_drop hd
    obtain ⟨r, hr1, hr2⟩ := ih (p + 1) k hd' (by omega)
    simp only [impl_Cover_116.l0, rd_T64, hx]
    rw [if_pos (by omega), if_pos (by omega), if_pos (by omega), step64 hp hl, hr1]
    show ∃ r_1, (if samC x y = true then some (p : Int) else some r) = some r_1 ∧ (r_1 ≥ 0 ↔ x ∈ y :: rest)
    cases h : samC x y with
    | true =>
      rw [if_pos rfl]
      exact ⟨p, rfl, ⟨fun _ => by rw [samC_eq h]; simp, fun _ => by omega⟩⟩
    | false =>
      rw [if_neg (by simp)]
      refine ⟨r, rfl, hr2.trans ?_⟩
      have := samC_ne h
      simp [this]
theorem coverHas_is (l : List S64) (x : S64) (hl : l.length ≤ 1152921504606846976) (k : Nat) (hk : l.length < k) : impl_Cover_101.f k l x.f0 x.f1 = some (decide (x ∈ l)) := by
  obtain ⟨r, h1, h2⟩ := coverAt_l0 l x hl l 0 k rfl hk
  unfold impl_Cover_101.f impl_Cover_116.f
  have h1' : impl_Cover_116.l0 k l (l.length : Int) 0 x.f0 x.f1 = some r := h1
  rw [h1']
  simp only [Option.bind_some]
  exact some_dec h2
theorem isChain_is (n c : Int) : impl_isChain.f n c = some (decide (0 ≤ c ∧ c < n)) := by
  unfold impl_isChain.f
  split
  · exact some_dec (by omega)
  · exact some_decF (by omega)
theorem validCovers_l0 (n : Int) (l : List S64) (hl : l.length ≤ 1048576) (h8 : ∀ x ∈ l, InC x) : ∀ (rest : List S64) (p k : Nat), l.drop p = rest → rest.length + l.length + 1 < k → impl_ValidCovers.l0 k n l l (l.length : Int) (p : Int) = some (okGo n (l.take p) rest) := by
  intro rest
  induction rest with
  | nil =>
    intro p k hd hk
    obtain ⟨k, rfl⟩ : ∃ m, k = m + 1 := ⟨k - 1, by omega⟩
    have := of_drop_nil hd
    simp only [impl_ValidCovers.l0, okGo]
    rw [if_neg (by omega)]
  | cons y rest ih =>
    intro p k hd hk
    simp only [List.length_cons] at hk
    obtain ⟨k, rfl⟩ : ∃ m, k = m + 1 := ⟨k - 1, by omega⟩
    obtain ⟨hp, hd', hx⟩ := of_drop hd
    have hy : l[p] = y := by
      have := hx z64
      rw [Int.toNat_natCast, List.getD_eq_getElem?_getD, List.getElem?_eq_getElem hp] at this
      exact this
    have hin := h8 y (List.mem_of_mem_drop (by rw [hd]; exact List.mem_cons_self))
    have i0 := hin.1
    have i1 := hin.2
    have I := ih (p + 1) k hd' (by omega)
    rw [List.take_succ_eq_append_getElem hp, hy] at I
    simp only [impl_ValidCovers.l0, rd_T64, hx, okGo]
    rw [if_pos (by omega), if_pos (by omega), if_pos (by omega), w64_id (a := y.f0) (by omega), w64_id (a := y.f1) (by omega), isChain_is, isChain_is]
    simp only [Option.bind_some]
    by_cases h0 : 0 ≤ y.f0 ∧ y.f0 < n
    · rw [decide_eq_true h0, if_pos rfl]
      by_cases h1 : 0 ≤ y.f1 ∧ y.f1 < n
      · rw [decide_eq_true h1, if_pos rfl]
        by_cases h2 : y.f0 = y.f1
        · rw [if_pos h2, if_neg (fun g => g.2.2.1 h2)]
        · rw [if_neg h2, if_pos (by omega), Int.toNat_natCast, coverHas_is (l.take p) y (by simp; omega) k (by simp; omega)]
          simp only [Option.bind_some]
          by_cases h3 : y ∈ l.take p
          · rw [decide_eq_true h3, if_pos rfl, if_neg (fun g => g.2.2.2 h3)]
          · rw [decide_eq_false h3, if_neg (by simp), if_pos ⟨h0, h1, h2, h3⟩, step64 hp (by omega), I]
      · rw [decide_eq_false h1, if_neg (by simp), if_neg (fun g => h1 g.2.1)]
    · rw [decide_eq_false h0, if_neg (by simp), if_neg (fun g => h0 g.1)]
theorem validCovers_is (n : Int) (l : List S64) (hl : l.length ≤ 1048576) (h8 : ∀ x ∈ l, InC x) (k : Nat) (hk : 2 * l.length + 2 < k) : impl_ValidCovers.f k n l = some (okC n l) := by
  obtain ⟨k, rfl⟩ : ∃ m, k = m + 1 := ⟨k - 1, by omega⟩
  unfold impl_ValidCovers.f okC
  by_cases h0 : n < 0
  · rw [if_pos h0, decide_eq_false (by omega)]
    simp [impl_ValidCovers.j0]
  · rw [if_neg h0]
    by_cases h1 : n > 12
    · rw [if_pos h1, decide_eq_false (by omega)]
      simp [impl_ValidCovers.j0]
    · rw [if_neg h1]
      simp only [impl_ValidCovers.j0]
      by_cases h2 : (l.length : Int) > 60
      · rw [decide_eq_true h2, if_pos rfl, decide_eq_false (by omega)]; rfl
      · have e := validCovers_l0 n l hl h8 l 0 k rfl (by omega)
        have e' : impl_ValidCovers.l0 k n l l (l.length : Int) 0 = _ := e
        rw [decide_eq_false h2, if_neg (by simp), e', decide_eq_true (by omega)]; rfl

theorem chainCode_l0 (n : Int) (cs : List Int) (hl : cs.length ≤ 1048576) : ∀ (rest : List Int) (p k : Nat), cs.drop p = rest → rest.length < k → impl_chainCode.l0 k n cs (cs.length : Int) (p : Int) = some (if ∀ c ∈ rest, 0 ≤ c ∧ c < n then 0 else 2) := by
  intro rest
  induction rest with
  | nil =>
    intro p k hd hk
    obtain ⟨k, rfl⟩ : ∃ m, k = m + 1 := ⟨k - 1, by omega⟩
    have := of_drop_nil hd
    simp only [impl_chainCode.l0]
    rw [if_neg (by omega), if_pos (by simp)]
  | cons y rest ih =>
    intro p k hd hk
    simp only [List.length_cons] at hk
    obtain ⟨k, rfl⟩ : ∃ m, k = m + 1 := ⟨k - 1, by omega⟩
    obtain ⟨hp, hd', hx⟩ := of_drop hd
    simp only [impl_chainCode.l0, rd, hx]
    rw [if_pos (by omega), if_pos (by omega), if_pos (by omega), isChain_is, step64 hp (by omega), ih (p + 1) k hd' (by omega)]
    simp only [Option.bind_some]
    by_cases h : 0 ≤ y ∧ y < n
    · rw [decide_eq_true h, if_pos rfl]
      by_cases g : ∀ c ∈ rest, 0 ≤ c ∧ c < n
      · rw [if_pos g, if_pos (fun c hc => by rcases List.mem_cons.1 hc with rfl | hc; exact h; exact g c hc)]
      · rw [if_neg g, if_neg (fun f => g (fun c hc => f c (List.mem_cons_of_mem _ hc)))]
    · rw [decide_eq_false h, if_neg (by simp), if_neg (fun f => h (f y List.mem_cons_self))]
theorem chainCode_is (n : Int) (l : List S64) (cs : List Int) (hc : cs.length ≤ 1048576) (hl : l.length ≤ 1048576) (h8 : ∀ x ∈ l, InC x) (k : Nat) (hk : 2 * l.length + cs.length + 2 < k) : impl_chainCode.f k n l cs = some (askC n l (decide (∀ c ∈ cs, 0 ≤ c ∧ c < n))) := by
  unfold impl_chainCode.f askC
  rw [validCovers_is n l hl h8 k (by omega)]
  simp only [Option.bind_some]
  by_cases h : okC n l = true
  · have e := chainCode_l0 n cs hc cs 0 k rfl (by omega)
    have e' : impl_chainCode.l0 k n cs (cs.length : Int) 0 = _ := e
    rw [if_pos h, if_pos h, e']
    by_cases g : ∀ c ∈ cs, 0 ≤ c ∧ c < n
    · rw [if_pos g, decide_eq_true g, if_pos rfl]
    · rw [if_neg g, decide_eq_false g, if_neg (by simp)]
  · rw [if_neg h, if_neg h]

def cvC (x : S66) : S64 := ⟨x.f0, x.f1⟩

theorem toCoverS_l0 (l : List S66) (hl : l.length ≤ 1152921504606846976) : ∀ (rest : List S66) (p k : Nat) (ys : List S64), l.drop p = rest → ys.length = l.length → rest.length < k →
    laws_toCoverS.l0 k l ys (p : Int) = some (ys.take p ++ rest.map cvC) := by
  intro rest
  induction rest with
  | nil =>
    intro p k ys hd hy hk
    obtain ⟨k, rfl⟩ : ∃ m, k = m + 1 := ⟨k - 1, by simp at hk; omega⟩
    have := of_drop_nil hd
    simp only [laws_toCoverS.l0]
    rw [if_neg (by omega), List.take_of_length_le (by omega)]
    simp
  | cons x rest ih =>
    intro p k ys hd hy hk
    simp only [List.length_cons] at hk
    obtain ⟨k, rfl⟩ : ∃ m, k = m + 1 := ⟨k - 1, by omega⟩
    obtain ⟨hp, hd', hx⟩ := of_drop hd
    simp only [laws_toCoverS.l0, laws_toCover.f, rd_T66, hx, Option.bind_some]
    rw [if_pos (by omega), if_pos (by omega), if_pos (by omega), step64 hp hl, ih (p + 1) k _ hd' (by simpa using hy) (by omega), Int.toNat_natCast, take_set_at _ _ _ (by omega)]
    simp [cvC]

theorem toCoverS_is (l : List S66) (hl : l.length ≤ 93824992236885) (k : Nat) (hk : l.length < k) : laws_toCoverS.f k l = some (l.map cvC) := by
  unfold laws_toCoverS.f
  rw [if_pos (by omega), if_pos (by omega)]
  have := toCoverS_l0 l (by omega) l 0 k (List.replicate (l.length : Int).toNat z64) rfl (by simp) hk
  simpa using this

theorem eqCoverS_l0 (l : List S64) (hl : l.length ≤ 1152921504606846976) : ∀ (rest : List S64) (p k : Nat), l.drop p = rest → rest.length < k → laws_eqCoverS.l0 k l l (p : Int) = some true := by
  intro rest
  induction rest with
  | nil =>
    intro p k hd hk
    obtain ⟨k, rfl⟩ : ∃ m, k = m + 1 := ⟨k - 1, by simp at hk; omega⟩
    have := of_drop_nil hd
    simp only [laws_eqCoverS.l0]
    rw [if_neg (by omega)]
  | cons x rest ih =>
    intro p k hd hk
    simp only [List.length_cons] at hk
    obtain ⟨k, rfl⟩ : ∃ m, k = m + 1 := ⟨k - 1, by omega⟩
    obtain ⟨hp, hd', hx⟩ := of_drop hd
    simp only [laws_eqCoverS.l0, laws_eqCover.f, if_true, Option.bind_some]
    rw [if_pos (by omega), if_pos (by omega), if_pos (by omega), step64 hp hl]
    exact ih (p + 1) k hd' (by omega)

theorem eqCoverS_is (l : List S64) (hl : l.length ≤ 1152921504606846976) (k : Nat) (hk : l.length < k) : laws_eqCoverS.f k l l = some true := by
  unfold laws_eqCoverS.f
  rw [if_pos rfl]
  exact eqCoverS_l0 l hl l 0 k rfl hk

theorem szCoverS_is (l : List S66) (a : Int) (hl : l.length ≤ 93824992236885) (h0 : 0 ≤ a) (h1 : a ≤ 1048576) : laws_szCoverS.f l a = some (if a < l.length then -1 else a - l.length) := by
  unfold laws_szCoverS.f
  rw [w64_id (by omega)]
  by_cases h : a < l.length
  · rw [if_pos (by omega), if_pos h]
  · rw [if_neg (by omega), if_neg h]

theorem markCoverS_l0 : ∀ (n p k : Nat) (l : List S64) (a : Int), l.length ≤ 1048576 → l.length = p + n → n < k → 1 ≤ a → a ≤ 4000000 + 2 * p →
    ∃ ys : List S64, laws_markCoverS.l0 k l a (p : Int) = some (a + 2 * n, ys)
  | 0, p, k, l, a, hl, hn, hk, h0, h1 => by
    obtain ⟨k, rfl⟩ : ∃ m, k = m + 1 := ⟨k - 1, by omega⟩
    refine ⟨l, ?_⟩
    simp only [laws_markCoverS.l0]
    rw [if_neg (by omega)]
    simp
  | n + 1, p, k, l, a, hl, hn, hk, h0, h1 => by
    obtain ⟨k, rfl⟩ : ∃ m, k = m + 1 := ⟨k - 1, by omega⟩
    simp only [laws_markCoverS.l0, Option.bind_some]
    rw [if_pos (by omega), if_pos (by omega)]
    rw [w64_id (a := a + 1) (by omega), w64_id (a := a + 1 + 1) (by omega), step64 (show p < l.length by omega) (by omega)]
    have key : ∀ Y : List S64, Y.length = l.length → ∃ ys, laws_markCoverS.l0 k Y (a + 1 + 1) ((p + 1 : Nat) : Int) = some (a + 2 * ((n + 1 : Nat) : Int), ys) := by
      intro Y hY
      obtain ⟨ys, e⟩ := markCoverS_l0 n (p + 1) k Y (a + 1 + 1) (by omega) (by omega) (by omega) (by omega) (by omega)
      refine ⟨ys, ?_⟩
      rw [e]
      simp only [Option.some.injEq, Prod.mk.injEq, and_true]
      omega
    exact key _ (by simp)

theorem markCoverS_is (l : List S64) (a : Int) (hl : l.length ≤ 1048576) (h0 : 1 ≤ a) (h1 : a ≤ 4000000) (k : Nat) (hk : l.length < k) : ∃ ys, laws_markCoverS.f k l a = some (a + 2 * (l.length : Int), ys) := by
  unfold laws_markCoverS.f
  exact markCoverS_l0 l.length 0 k l a hl (by simp) hk h0 (by omega)

theorem listB_more {a b : Nat} (ha : a < 4096) (hb : b < 4096) (hs : ∀ i, a.testBit i = true → b.testBit i = true) {j : Nat} (hj : b.testBit j = true) (hn : ¬ a.testBit j = true) : (listB (a : Int)).length < (listB (b : Int)).length := by
  have nd : (listB (a : Int)).Nodup := (listB_lt _).imp (fun h => by omega)
  have := nodup_le ((j : Int) :: listB (a : Int)) (listB (b : Int)) (List.nodup_cons.2 ⟨fun m => by
    obtain ⟨i, e, hi⟩ := (listB_same ha _).1 m
    have : i = j := by omega
    exact hn (this ▸ hi), nd⟩) (fun y hy => by
    rcases List.mem_cons.1 hy with rfl | hy
    · exact (listB_same hb _).2 ⟨j, rfl, hj⟩
    · obtain ⟨i, rfl, hi⟩ := (listB_same ha _).1 hy
      exact (listB_same hb _).2 ⟨i, rfl, hs i hi⟩)
  rw [List.length_cons] at this
  omega

/-- What is locked of a set, as a set. -/
theorem lock_is {n : Int} {l : List S64} (h : okC n l = true) : ∀ (k a : Nat), a < 4096 → (listB (a : Int)).length < k → ∃ b : Nat, lockB (maskL l) k (a : Int) = some (b : Int) ∧ b < 4096 ∧ listB (b : Int) = (roundsP l (listB (a : Int))).2
  | 0, a, _, hk => by omega
  | k + 1, a, ha, hk => by
    obtain ⟨f, f1, f2, f3, f4⟩ := free_is h ha
    rw [lockB, f1]
    by_cases e : f = 0
    · subst e
      have hn : freeL l (listB (a : Int)) = [] := by rw [← f4]; decide
      exact ⟨a, by rw [if_pos (by omega)], ha, by rw [roundsP_nil hn]⟩
    · have hn : freeL l (listB (a : Int)) ≠ [] := fun g => e ((listB_nil f2).1 (f4.trans g))
      obtain ⟨c, c1, c2, c3⟩ := less_listB ha f2
      have hs := free_sub hn
      rw [if_neg (by omega), c1]
      rw [← f4] at hs
      obtain ⟨b, b1, b2, b3⟩ := lock_is h k c c2 (by rw [c3]; omega)
      refine ⟨b, b1, b2, ?_⟩
      rw [b3, roundsP_cons hn, c3, f4]
theorem locked_is {n : Int} {l : List S64} (h : okC n l = true) {a : Nat} (ha : a < 4096) (k : Nat) (hk : 12 < k) : ∃ b : Nat, spec_l03Locked.f k (maskL l) (a : Int) = some (b : Int) ∧ b < 4096 ∧ listB (b : Int) = (roundsP l (listB (a : Int))).2 := by
  unfold spec_l03Locked.f
  rw [if_pos (maskL_length l)]
  exact lock_is h k a ha (by have := listB_length (a : Int); omega)

theorem one_shl {i : Nat} (hi : i < 12) : IntKind.u16.wrap (2 ^ min (IntKind.u64.wrap (i : Int)).toNat 16) = ((2 ^ i : Nat) : Int) := by
  rw [wu64 (by omega), Int.toNat_natCast, Nat.min_eq_left (by omega)]
  exact bitN_is hi
theorem two_lt12 {i : Nat} (hi : i < 12) : 2 ^ i < 4096 := by
  have := Nat.pow_lt_pow_right (a := 2) (by omega) hi
  have h : (2 : Nat) ^ 12 = 4096 := by decide
  omega
theorem listB_two {i : Nat} (hi : i < 12) : listB ((2 ^ i : Nat) : Int) = [(i : Int)] := by
  refine lt_unique (listB_lt _) (by simp) (fun y => ?_)
  rw [listB_same (two_lt12 hi) y]
  simp only [Nat.testBit_two_pow, decide_eq_true_iff, List.mem_singleton]
  constructor
  · rintro ⟨j, rfl, rfl⟩; rfl
  · rintro rfl; exact ⟨i, rfl, rfl⟩
/-- A set without one of its own. -/
theorem less_one {a : Nat} (ha : a < 4096) {x : Int} (hx : x ∈ listB (a : Int)) : ∃ c : Nat, Go.bits .andNot .u16 (a : Int) (IntKind.u16.wrap (2 ^ min (IntKind.u64.wrap x).toNat 16)) = (c : Int) ∧ c < 4096 ∧ listB (c : Int) = lessL (listB (a : Int)) [x] := by
  obtain ⟨i, rfl, hi⟩ := (listB_same ha x).1 hx
  have h12 := bit_lt ha hi
  rw [one_shl h12]
  obtain ⟨c, h1, h2, h3⟩ := less_listB ha (two_lt12 h12)
  exact ⟨c, h1, h2, by rw [h3, listB_two h12]⟩

/-! The law's harness over a result that is a list of whole numbers. -/
theorem eqInt64S_l0 (l : List Int) (hl : l.length ≤ 1152921504606846976) : ∀ (rest : List Int) (p k : Nat), l.drop p = rest → rest.length < k → laws_eqInt64S.l0 k l l (p : Int) = some true := by
  intro rest
  induction rest with
  | nil =>
    intro p k hd hk
    obtain ⟨k, rfl⟩ : ∃ m, k = m + 1 := ⟨k - 1, by simp at hk; omega⟩
    have := of_drop_nil hd
    simp only [laws_eqInt64S.l0]
    rw [if_neg (by omega)]
  | cons x rest ih =>
    intro p k hd hk
    simp only [List.length_cons] at hk
    obtain ⟨k, rfl⟩ : ∃ m, k = m + 1 := ⟨k - 1, by omega⟩
    obtain ⟨hp, hd', hx⟩ := of_drop hd
    simp only [laws_eqInt64S.l0, if_true]
    rw [if_pos (by omega), if_pos (by omega), if_pos (by omega), step64 hp hl]
    exact ih (p + 1) k hd' (by omega)

theorem eqInt64S_is (l : List Int) (hl : l.length ≤ 1152921504606846976) (k : Nat) (hk : l.length < k) : laws_eqInt64S.f k l l = some true := by
  unfold laws_eqInt64S.f
  rw [if_pos rfl]
  exact eqInt64S_l0 l hl l 0 k rfl hk

/-- 1, 2, 3, .. in place of every number. -/
def marks : Int → Nat → List Int
  | _, 0 => []
  | a, n + 1 => a :: marks (a + 1) n

theorem marks_length : ∀ (n : Nat) (a : Int), (marks a n).length = n
  | 0, _ => rfl
  | n + 1, a => by simp [marks, marks_length n]

theorem markInt64S_l0 : ∀ (n p k : Nat) (l : List Int) (a : Int), l.length ≤ 1152921504606846976 → l.length = p + n → n < k → 0 ≤ a → a ≤ 2305843009213693952 + p →
    laws_markInt64S.l0 k l a (p : Int) = some (a + n, l.take p ++ marks a n)
  | 0, p, k, l, a, hl, hn, hk, h0, h1 => by
    obtain ⟨k, rfl⟩ : ∃ m, k = m + 1 := ⟨k - 1, by omega⟩
    simp only [laws_markInt64S.l0, marks]
    rw [if_neg (by omega), List.take_of_length_le (by omega)]
    simp
  | n + 1, p, k, l, a, hl, hn, hk, h0, h1 => by
    obtain ⟨k, rfl⟩ : ∃ m, k = m + 1 := ⟨k - 1, by omega⟩
    simp only [laws_markInt64S.l0]
    rw [if_pos (by omega), if_pos (by omega), w64_id (by omega), step64 (show p < l.length by omega) hl, Int.toNat_natCast,
      markInt64S_l0 n (p + 1) k (l.set p a) (a + 1) (by simpa using hl) (by simp; omega) (by omega) (by omega) (by omega), take_set_at _ _ _ (by omega)]
    simp only [marks, Option.some.injEq, Prod.mk.injEq, List.append_assoc, List.singleton_append, and_true]
    omega

theorem markInt64S_is (l : List Int) (hl : l.length ≤ 1152921504606846976) (k : Nat) (hk : l.length < k) : laws_markInt64S.f k l 1 = some (1 + (l.length : Int), marks 1 l.length) := by
  unfold laws_markInt64S.f
  exact (markInt64S_l0 l.length 0 k l 1 hl (by simp) hk (by omega) (by omega)).trans (by rw [List.take_zero, List.nil_append])

theorem heldInt64S_l0 (l : List Int) (hl : l.length ≤ 1152921504606846976) : ∀ (n p k : Nat) (a : Int), l.length = p + n → l.drop p = marks a n → n < k → 0 ≤ a → a ≤ 2305843009213693952 + p →
    laws_heldInt64S.l0 k l a (p : Int) = some (a + n)
  | 0, p, k, a, hn, hd, hk, h0, h1 => by
    obtain ⟨k, rfl⟩ : ∃ m, k = m + 1 := ⟨k - 1, by omega⟩
    simp only [laws_heldInt64S.l0]
    rw [if_neg (by omega)]
    simp
  | n + 1, p, k, a, hn, hd, hk, h0, h1 => by
    obtain ⟨k, rfl⟩ : ∃ m, k = m + 1 := ⟨k - 1, by omega⟩
    obtain ⟨hp, hd', hx⟩ := of_drop hd
    simp only [laws_heldInt64S.l0, rd, hx, if_true]
    rw [if_pos (by omega), if_pos (by omega), w64_id (by omega), step64 hp hl, heldInt64S_l0 l hl n (p + 1) k (a + 1) (by omega) hd' (by omega) (by omega) (by omega)]
    simp only [Option.some.injEq]
    omega

theorem heldInt64S_is (n : Nat) (hl : n ≤ 1152921504606846976) (k : Nat) (hk : n < k) : laws_heldInt64S.f k (marks 1 n) 1 = some (1 + (n : Int)) := by
  unfold laws_heldInt64S.f
  exact heldInt64S_l0 (marks 1 n) (by rw [marks_length]; exact hl) n 0 k 1 (by rw [marks_length]; simp) rfl hk (by omega) (by omega)

/-- The law, in plain Lean. -/
def FnExactFewestSlipped.Said : Prop := ∀ (a0 : Int) (l1 : List S66), (Lit.int .i64 a0).wf = true → l1.length ≤ maxLen → l1.length * 2 ≤ 140737488351232 → (∀ x ∈ l1, (Lit.int .i8 x.f0).wf = true ∧ (Lit.int .i8 x.f1).wf = true) → ∃ k, laws_FnExactFewestSlipped.f k a0 l1 = some true

theorem before_irr : ∀ a : List Int, beforeP a a = false
  | [] => rfl
  | x :: a => by rw [beforeP, if_pos rfl]; exact before_irr a
theorem slip_is {n x : Nat} (hn : n ≤ 12) (hx : x < 2 ^ n) : slipL n x = listB (x : Int) := by
  have hx12 : x < 4096 := by
    have h1 : 2 ^ n ≤ 2 ^ 12 := Nat.pow_le_pow_right (by omega) hn
    have h2 : (2 : Nat) ^ 12 = 4096 := by decide
    omega
  refine lt_unique ((cntI_lt n).sublist List.filter_sublist) (listB_lt _) (fun y => ?_)
  rw [listB_same hx12 y]
  unfold slipL
  rw [List.mem_filter, cntI_mem]
  constructor
  · rintro ⟨h1, h2⟩
    exact ⟨y.toNat, by omega, h2⟩
  · rintro ⟨i, rfl, hi⟩
    have : i < n := by
      rcases Nat.lt_or_ge i n with g | g
      · exact g
      · rw [Nat.testBit_lt_two_pow (Nat.lt_of_lt_of_le hx (Nat.pow_le_pow_right (by omega) g))] at hi
        cases hi
    exact ⟨by omega, by rw [Int.toNat_natCast]; exact hi⟩
theorem works_is {n : Nat} {l : List S64} (h : okC (n : Int) l = true) {x : Nat} (hx : x < 2 ^ n) : ∃ u : Nat, spec_l03Locked.f 20 (maskL l) (Go.bits .andNot .u16 ((2 ^ n - 1 : Nat) : Int) (x : Int)) = some (u : Int) ∧ (u = 0 ↔ (roundsP l (lessL (cntI n) (slipL n x))).2 = []) := by
  obtain ⟨h1, h2, _⟩ := okC_ok h
  have hn : n ≤ 12 := by omega
  have hz := all_lt hn
  obtain ⟨c, c1, c2, c3⟩ := less_listB hz (show x < 4096 by omega)
  obtain ⟨u, u1, u2, u3⟩ := locked_is h c2 20 (by omega)
  refine ⟨u, by rw [c1, u1], ?_⟩
  rw [slip_is hn hx, cntI_listB hn, ← c3, ← u3]
  exact (listB_nil u2).symm
/-- Where the two searches stand. -/
def Stand (z : Nat) (o : Option (List Int)) (b : List Int) : Prop := (o = none ∧ b = listB (z : Int)) ∨ o = some b
theorem stand_step {n : Nat} {l : List S64} (h : okC (n : Int) l = true) {x : Nat} (hx : x < 2 ^ n) {o : Option (List Int)} {b : List Int} (hs : Stand (2 ^ n - 1) o b) : Stand (2 ^ n - 1) (fewS l n o x) (fewB (maskL l) (2 ^ n - 1) b x) ∧ (x = 2 ^ n - 1 → ∃ b', fewS l n o x = some b') := by
  obtain ⟨h1, h2, _⟩ := okC_ok h
  have hn : n ≤ 12 := by omega
  have hz := all_lt hn
  have hsl := slip_is hn hx
  obtain ⟨u, u1, u2⟩ := works_is h hx
  have hif : (spec_l03Locked.f 20 (maskL l) (Go.bits .andNot .u16 ((2 ^ n - 1 : Nat) : Int) (x : Int)) = some 0) ↔ (roundsP l (lessL (cntI n) (slipL n x))).2 = [] := by
    rw [u1, ← u2]
    constructor
    · intro g
      have := Option.some.inj g
      omega
    · intro g
      rw [g]
      rfl
  rcases hs with ⟨rfl, rfl⟩ | rfl
  · -- none so far
    have e1 : fewS l n none x = if (roundsP l (lessL (cntI n) (slipL n x))).2 = [] then some (slipL n x) else none := by
      unfold fewS
      rw [if_neg (by simp)]
    by_cases hxz : x = 2 ^ n - 1
    · have hnil : (roundsP l (lessL (cntI n) (slipL n x))).2 = [] := by
        have e : lessL (cntI n) (slipL n x) = [] := by
          rw [hsl, hxz, ← cntI_listB hn]
          unfold lessL
          rw [List.filter_eq_nil_iff]
          intro y hy
          simpa using hy
        rw [e, roundsP_nil (by rfl)]
      rw [e1, if_pos hnil]
      refine ⟨.inr ?_, fun _ => ⟨_, rfl⟩⟩
      unfold fewB
      rw [if_pos (.inr ⟨by rw [hxz], by rw [hxz]; exact before_irr _⟩), hsl, hxz]
    · have hlt : (listB (x : Int)).length < (listB ((2 ^ n - 1 : Nat) : Int)).length := by
        have hbits : ∀ i, (2 ^ n - 1).testBit i = decide (i < n) := fun i => Nat.testBit_two_pow_sub_one n i
        have hxb : ∀ i, x.testBit i = true → i < n := fun i hi => by
          rcases Nat.lt_or_ge i n with g | g
          · exact g
          · rw [Nat.testBit_lt_two_pow (Nat.lt_of_lt_of_le hx (Nat.pow_le_pow_right (by omega) g))] at hi
            cases hi
        obtain ⟨j, hj, hjn⟩ : ∃ j, (2 ^ n - 1).testBit j = true ∧ ¬ x.testBit j = true := by
          rcases Classical.em (∃ j, (2 ^ n - 1).testBit j = true ∧ ¬ x.testBit j = true) with g | g
          · exact g
          · exfalso
            apply hxz
            apply Nat.eq_of_testBit_eq
            intro i
            rw [Bool.eq_iff_iff]
            constructor
            · intro hi
              rw [hbits]
              exact decide_eq_true (hxb i hi)
            · intro hi
              rcases Classical.em (x.testBit i = true) with q | q
              · exact q
              · exact absurd ⟨i, hi, q⟩ g
        exact listB_more (show x < 4096 by omega) hz (fun i hi => by rw [hbits]; exact decide_eq_true (hxb i hi)) hj hjn
      have e2 : fewB (maskL l) (2 ^ n - 1) (listB ((2 ^ n - 1 : Nat) : Int)) x = if (roundsP l (lessL (cntI n) (slipL n x))).2 = [] then listB (x : Int) else listB ((2 ^ n - 1 : Nat) : Int) := by
        unfold fewB
        rw [if_neg (fun g => by rcases g with g | g <;> omega)]
        by_cases g : (roundsP l (lessL (cntI n) (slipL n x))).2 = []
        · rw [if_pos (hif.2 g), if_pos g]
        · rw [if_neg (fun q => g (hif.1 q)), if_neg g]
      rw [e1, e2]
      refine ⟨?_, fun g => absurd g hxz⟩
      by_cases g : (roundsP l (lessL (cntI n) (slipL n x))).2 = []
      · rw [if_pos g, if_pos g, hsl]
        exact .inr rfl
      · rw [if_neg g, if_neg g]
        exact .inl ⟨rfl, rfl⟩
  · -- one so far
    have hc : ((decide (b.length < (slipL n x).length) || (decide ((slipL n x).length = b.length) && !beforeP (slipL n x) b)) = true) ↔ ((listB (x : Int)).length > b.length ∨ (listB (x : Int)).length = b.length ∧ beforeP (listB (x : Int)) b = false) := by
      rw [hsl, Bool.or_eq_true, Bool.and_eq_true, decide_eq_true_iff, decide_eq_true_iff, Bool.not_eq_true']
    have e1 : fewS l n (some b) x = some (fewB (maskL l) (2 ^ n - 1) b x) := by
      unfold fewS fewB
      by_cases g : (listB (x : Int)).length > b.length ∨ (listB (x : Int)).length = b.length ∧ beforeP (listB (x : Int)) b = false
      · rw [if_pos (hc.2 g), if_pos g]
      · rw [if_neg (fun q => g (hc.1 q)), if_neg g]
        by_cases q : (roundsP l (lessL (cntI n) (slipL n x))).2 = []
        · rw [if_pos q, if_pos (hif.2 q), hsl]
        · rw [if_neg q, if_neg (fun w => q (hif.1 w))]
    rw [e1]
    exact ⟨.inr rfl, fun _ => ⟨_, rfl⟩⟩
theorem stand_all {n : Nat} {l : List S64} (h : okC (n : Int) l = true) : ∀ m : Nat, m ≤ 2 ^ n → Stand (2 ^ n - 1) ((List.range m).foldl (fewS l n) none) ((List.range m).foldl (fewB (maskL l) (2 ^ n - 1)) (listB ((2 ^ n - 1 : Nat) : Int))) ∧ (m = 2 ^ n → ∃ b', (List.range m).foldl (fewS l n) none = some b')
  | 0, _ => ⟨.inl ⟨rfl, rfl⟩, fun g => by have := Nat.two_pow_pos n; omega⟩
  | m + 1, hm => by
    obtain ⟨ih, _⟩ := stand_all h m (by omega)
    rw [List.range_succ, List.foldl_append, List.foldl_append]
    obtain ⟨s1, s2⟩ := stand_step h (show m < 2 ^ n by omega) ih
    exact ⟨s1, fun g => s2 (by omega)⟩
theorem few_same {n : Nat} {l : List S64} (h : okC (n : Int) l = true) : fewT l n = fewR (maskL l) (2 ^ n - 1) := by
  obtain ⟨s1, s2⟩ := stand_all h (2 ^ n) (Nat.le_refl _)
  obtain ⟨b, hb⟩ := s2 rfl
  have hp := Nat.two_pow_pos n
  unfold fewT fewR
  rw [show 2 ^ n - 1 + 1 = 2 ^ n by omega, hb]
  rw [hb] at s1
  rcases s1 with ⟨g, _⟩ | g
  · cases g
  · exact Option.some.inj g
/-- What both answer. -/
def fewQ (n : Int) (l : List S64) : List Int × Int := if askC n l true = 0 then (fewR (maskL l) (2 ^ n.toNat - 1), 0) else ([], askC n l true)
theorem few_fold_len (m : List Int) (z : Nat) : ∀ (xs : List Nat) (b : List Int), b.length ≤ 12 → (xs.foldl (fewB m z) b).length ≤ 12
  | [], b, h => h
  | x :: xs, b, h => few_fold_len m z xs _ (fewB_len m z b x h)
theorem fewQ_length (n : Int) (l : List S64) : (fewQ n l).1.length ≤ 12 := by
  unfold fewQ
  split
  · exact few_fold_len _ _ _ _ (listB_len _)
  · simp
theorem implFewC_is (n : Int) (l : List S64) (hl : l.length ≤ 1048576) (h8 : ∀ x ∈ l, InC x) (k : Nat) (hk : 2 * l.length + 20 < k) : impl_FewestSlipped.f k n l = some (fewQ n l) := by
  unfold impl_FewestSlipped.f fewQ
  rw [chainCode_is n l [] (by simp) hl h8 k (by simp; omega), decide_eq_true (show ∀ c ∈ ([] : List Int), 0 ≤ c ∧ c < n by simp)]
  simp only [Option.bind_some]
  split
  · rename_i h
    have ho := (askC_0 h).1
    obtain ⟨h1, h2, _⟩ := okC_ok ho
    rw [if_pos ⟨⟨hl, h8⟩, h1, h2⟩, few_same (n := n.toNat) (by rw [show ((n.toNat : Nat) : Int) = n by omega]; exact ho)]
  · rfl
theorem specFewC_is (n : Int) (l : List S64) (hl : l.length ≤ 1048576) (h8 : ∀ x ∈ l, InC x) (k : Nat) (hk : l.length * (l.length + 4) + 20 < k) : spec_FewestSlipped.f k n l = some (fewQ n l) := by
  unfold spec_FewestSlipped.f fewQ
  rw [asked_is n l true hl h8 k (by omega)]
  simp only [Option.bind_some]
  split
  · rename_i h
    have ho := (askC_0 h).1
    obtain ⟨h1, h2, _⟩ := okC_ok ho
    have hp := Nat.two_pow_pos n.toNat
    rw [if_pos ⟨⟨hl, in12 ho⟩, ⟨h1, h2⟩, fun x hx => by
      obtain ⟨u, hu, _⟩ := works_is (n := n.toNat) (by rw [show ((n.toNat : Nat) : Int) = n by omega]; exact ho) (x := x) (by have := List.mem_range.1 hx; omega)
      rw [hu]
      rfl⟩]
  · rfl
theorem FnExactFewestSlipped : FnExactFewestSlipped.Said := by
  intro n l hn hm hy hok
  have hl : l.length ≤ 93824992236885 := by omega
  have hlm : (l.map cvC).length = l.length := List.length_map ..
  have h8 : ∀ x ∈ l.map cvC, InC x := by
    intro x hx
    obtain ⟨y, hy, rfl⟩ := List.mem_map.1 hx
    exact ⟨i8_in (hok y hy).1, i8_in (hok y hy).2⟩
  obtain ⟨Z, hZ⟩ : ∃ Z, Z = l.length * (l.length + 4) := ⟨_, rfl⟩
  refine ⟨Z + 3 * l.length + 60, ?_⟩
  unfold laws_FnExactFewestSlipped.f
  rw [szCoverS_is l _ hl (by omega) (by omega)]
  simp only [Option.bind_some]
  by_cases big : (1048576 : Int) < l.length
  · rw [if_pos big]; rfl
  · rw [if_neg big, if_neg (by omega), toCoverS_is l hl _ (by omega)]
    simp only [Option.bind_some]
    have hr := fewQ_length n (l.map cvC)
    generalize hR : fewQ n (l.map cvC) = R at hr
    rw [specFewC_is n _ (by omega) h8 _ (by rw [hlm, ← hZ]; omega), implFewC_is n _ (by omega) h8 _ (by omega), hR]
    simp only [Option.bind_some]
    rw [eqInt64S_is _ (by omega) _ (by omega)]
    simp only [Option.bind_some, if_true, bne_self_eq_false, laws_FnExactFewestSlipped.j0, Bool.false_eq_true, if_false]
    rw [toCoverS_is l hl _ (by omega)]
    simp only [Option.bind_some]
    rw [eqCoverS_is _ (by omega) _ (by omega)]
    simp only [Option.bind_some, if_true]
    obtain ⟨ys, e⟩ := markCoverS_is (l.map cvC) 1 (by omega) (by omega) (by omega) (Z + 3 * l.length + 59) (by omega)
    rw [e]
    simp only [Option.bind_some]
    rw [if_neg (by omega), eqInt64S_is _ (by omega) _ (by omega)]
    simp only [Option.bind_some, if_true, laws_FnExactFewestSlipped.j1, Bool.false_eq_true, if_false]
    rw [markInt64S_is _ (by omega) _ (by omega)]
    simp only [Option.bind_some]
    rw [heldInt64S_is _ (by omega) _ (by omega)]
    simp only [Option.bind_some, if_true]
    rw [if_neg (by omega), toCoverS_is l hl _ (by omega)]
    simp only [Option.bind_some]
    rw [implFewC_is n _ (by omega) h8 _ (by omega), hR]
    simp only [Option.bind_some]
    rw [eqInt64S_is _ (by omega) _ (by omega)]
    simp only [Option.bind_some, if_true, bne_self_eq_false, laws_FnExactFewestSlipped.j2, Bool.false_eq_true, if_false]
    rw [heldInt64S_is _ (by omega) _ (by omega)]
    simp only [Option.bind_some, if_true]
    rw [if_neg (by omega)]

end Go.Proofs.Ytjcdgimldhodiaa.Pure
