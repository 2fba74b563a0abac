/- The program's GreedySlipped returns what the reference's GreedySlipped returns, for all numbers of chains and all covers (of at most 2^20; longer lists the law lets by). -/
import Derived.Test.YtjcdgimldhodiaaPFnExactGreedySlippedx9
namespace Go.Proofs.Ytjcdgimldhodiaa.Pure
open Go.RowKit Go.Proofs.Ytjcdgimldhodiaa.PFnExactGreedySlipped Go.Proofs.YtjcdgimldhodiaaW.PrintWords Go.Proofs.YtjcdgimldhodiaaW.PrintLast Go.Proofs.YtjcdgimldhodiaaW.PrintMore
set_option linter.unusedVariables false
set_option linter.unusedSimpArgs false

def cvC (x : S66) : S64 := ⟨x.f0, x.f1⟩

theorem toCoverS_l0 (l : List S66) (hl : l.length ≤ 1152921504606846976) : ∀ (rest : List S66) (p k : Nat) (ys : List S64), l.drop p = rest → ys.length = l.length → rest.length < k →
    laws_toCoverS.l0 k l ys (p : Int) = some (ys.take p ++ rest.map cvC) := by
  intro rest
  induction rest with
  | nil =>
    intro p k ys hd hy hk
    obtain ⟨k, rfl⟩ : ∃ m, k = m + 1 := ⟨k - 1, by simp at hk; omega⟩
    have := of_drop_nil hd
    simp only [laws_toCoverS.l0]
    rw [if_neg (by omega), List.take_of_length_le (by omega)]
    simp
  | cons x rest ih =>
    intro p k ys hd hy hk
    simp only [List.length_cons] at hk
    obtain ⟨k, rfl⟩ : ∃ m, k = m + 1 := ⟨k - 1, by omega⟩
    obtain ⟨hp, hd', hx⟩ := of_drop hd
    simp only [laws_toCoverS.l0, laws_toCover.f, rd_T66, hx, Option.bind_some]
    rw [if_pos (by omega), if_pos (by omega), if_pos (by omega), step64 hp hl, ih (p + 1) k _ hd' (by simpa using hy) (by omega), Int.toNat_natCast, take_set_at _ _ _ (by omega)]
    simp [cvC]

theorem toCoverS_is (l : List S66) (hl : l.length ≤ 93824992236885) (k : Nat) (hk : l.length < k) : laws_toCoverS.f k l = some (l.map cvC) := by
  unfold laws_toCoverS.f
  rw [if_pos (by omega), if_pos (by omega)]
  have := toCoverS_l0 l (by omega) l 0 k (List.replicate (l.length : Int).toNat z64) rfl (by simp) hk
  simpa using this

theorem eqCoverS_l0 (l : List S64) (hl : l.length ≤ 1152921504606846976) : ∀ (rest : List S64) (p k : Nat), l.drop p = rest → rest.length < k → laws_eqCoverS.l0 k l l (p : Int) = some true := by
  intro rest
  induction rest with
  | nil =>
    intro p k hd hk
    obtain ⟨k, rfl⟩ : ∃ m, k = m + 1 := ⟨k - 1, by simp at hk; omega⟩
    have := of_drop_nil hd
    simp only [laws_eqCoverS.l0]
    rw [if_neg (by omega)]
  | cons x rest ih =>
    intro p k hd hk
    simp only [List.length_cons] at hk
    obtain ⟨k, rfl⟩ : ∃ m, k = m + 1 := ⟨k - 1, by omega⟩
    obtain ⟨hp, hd', hx⟩ := of_drop hd
    simp only [laws_eqCoverS.l0, laws_eqCover.f, if_true, Option.bind_some]
    rw [if_pos (by omega), if_pos (by omega), if_pos (by omega), step64 hp hl]
    exact ih (p + 1) k hd' (by omega)

theorem eqCoverS_is (l : List S64) (hl : l.length ≤ 1152921504606846976) (k : Nat) (hk : l.length < k) : laws_eqCoverS.f k l l = some true := by
  unfold laws_eqCoverS.f
  rw [if_pos rfl]
  exact eqCoverS_l0 l hl l 0 k rfl hk

theorem szCoverS_is (l : List S66) (a : Int) (hl : l.length ≤ 93824992236885) (h0 : 0 ≤ a) (h1 : a ≤ 1048576) : laws_szCoverS.f l a = some (if a < l.length then -1 else a - l.length) := by
  unfold laws_szCoverS.f
  rw [w64_id (by omega)]
  by_cases h : a < l.length
  · rw [if_pos (by omega), if_pos h]
  · rw [if_neg (by omega), if_neg h]

theorem markCoverS_l0 : ∀ (n p k : Nat) (l : List S64) (a : Int), l.length ≤ 1048576 → l.length = p + n → n < k → 1 ≤ a → a ≤ 4000000 + 2 * p →
    ∃ ys : List S64, laws_markCoverS.l0 k l a (p : Int) = some (a + 2 * n, ys)
  | 0, p, k, l, a, hl, hn, hk, h0, h1 => by
    obtain ⟨k, rfl⟩ : ∃ m, k = m + 1 := ⟨k - 1, by omega⟩
    refine ⟨l, ?_⟩
    simp only [laws_markCoverS.l0]
    rw [if_neg (by omega)]
    simp
  | n + 1, p, k, l, a, hl, hn, hk, h0, h1 => by
    obtain ⟨k, rfl⟩ : ∃ m, k = m + 1 := ⟨k - 1, by omega⟩
    simp only [laws_markCoverS.l0, Option.bind_some]
    rw [if_pos (by omega), if_pos (by omega)]
    rw [w64_id (a := a + 1) (by omega), w64_id (a := a + 1 + 1) (by omega), step64 (show p < l.length by omega) (by omega)]
    have key : ∀ Y : List S64, Y.length = l.length → ∃ ys, laws_markCoverS.l0 k Y (a + 1 + 1) ((p + 1 : Nat) : Int) = some (a + 2 * ((n + 1 : Nat) : Int), ys) := by
      intro Y hY
      obtain ⟨ys, e⟩ := markCoverS_l0 n (p + 1) k Y (a + 1 + 1) (by omega) (by omega) (by omega) (by omega) (by omega)
      refine ⟨ys, ?_⟩
      rw [e]
      simp only [Option.some.injEq, Prod.mk.injEq, and_true]
      omega
    exact key _ (by simp)

theorem markCoverS_is (l : List S64) (a : Int) (hl : l.length ≤ 1048576) (h0 : 1 ≤ a) (h1 : a ≤ 4000000) (k : Nat) (hk : l.length < k) : ∃ ys, laws_markCoverS.f k l a = some (a + 2 * (l.length : Int), ys) := by
  unfold laws_markCoverS.f
  exact markCoverS_l0 l.length 0 k l a hl (by simp) hk h0 (by omega)

theorem wu16 {a : Nat} (h : a < 65536) : IntKind.u16.wrap (a : Int) = a := by
  have : IntKind.u16.wrap (a : Int) = (a : Int) % 65536 := by simp [IntKind.wrap, IntKind.signed, IntKind.bits]
  rw [this]
  omega
theorem wu64 {a : Nat} (h : a < 65536) : IntKind.u64.wrap (a : Int) = a := by
  have : IntKind.u64.wrap (a : Int) = (a : Int) % 18446744073709551616 := by simp [IntKind.wrap, IntKind.signed, IntKind.bits]
  rw [this]
  omega
theorem bits_or {a b : Nat} (ha : a < 65536) (hb : b < 65536) : Go.bits .or .u16 (a : Int) (b : Int) = ((a ||| b : Nat) : Int) := by
  have hab : a ||| b < 65536 := Nat.or_lt_two_pow (n := 16) ha hb
  have : Go.bits .or .u16 (a : Int) (b : Int) = IntKind.u16.wrap (((BitVec.ofInt 16 (a : Int) ||| BitVec.ofInt 16 (b : Int)).toNat : Nat) : Int) := rfl
  rw [this, BitVec.toNat_or]
  have e : ∀ x : Nat, x < 65536 → (BitVec.ofInt 16 (x : Int)).toNat = x := fun x hx => by
    rw [BitVec.toNat_ofInt]
    omega
  rw [e a ha, e b hb, wu16 hab]
theorem bits_and1 {a : Nat} (ha : a < 65536) : Go.bits .and .u16 (a : Int) 1 = ((a % 2 : Nat) : Int) := by
  have : Go.bits .and .u16 (a : Int) 1 = IntKind.u16.wrap (((BitVec.ofInt 16 (a : Int) &&& BitVec.ofInt 16 ((1 : Nat) : Int)).toNat : Nat) : Int) := rfl
  rw [this, BitVec.toNat_and]
  have e : ∀ x : Nat, x < 65536 → (BitVec.ofInt 16 (x : Int)).toNat = x := fun x hx => by
    rw [BitVec.toNat_ofInt]
    omega
  rw [e a ha, e 1 (by omega), Nat.and_one_is_mod, wu16 (by omega)]
/-- Is a bit set? -/
def bitI (z i : Int) : Bool := decide (Go.bits .and .u16 (shr .u16 z (IntKind.u64.wrap i)) 1 = 1)
theorem bitI_is {a i : Nat} (ha : a < 65536) (hi : i < 12) : bitI (a : Int) (i : Int) = a.testBit i := by
  have hlt : a / 2 ^ i < 65536 := Nat.lt_of_le_of_lt (Nat.div_le_self _ _) ha
  have e : shr .u16 (a : Int) (IntKind.u64.wrap (i : Int)) = ((a / 2 ^ i : Nat) : Int) := by
    unfold shr
    rw [wu64 (by omega), Int.toNat_natCast, show IntKind.u16.bits = 16 from rfl, Nat.min_eq_left (by omega)]
    norm_cast
  unfold bitI
  rw [e, bits_and1 hlt, Nat.testBit_eq_decide_div_mod_eq]
  exact decide_eq_decide.2 (by omega)
theorem one_bit {v : Nat} (hv : v < 12) : IntKind.u16.wrap (2 ^ min (IntKind.u64.wrap (v : Int)).toNat 16) = ((2 ^ v : Nat) : Int) := by
  rw [wu64 (by omega), Int.toNat_natCast, Nat.min_eq_left (by omega)]
  have h : 2 ^ v < 65536 := Nat.lt_of_lt_of_le (Nat.pow_lt_pow_right (by omega) (show v < 16 by omega)) (by decide)
  have e : (2 : Int) ^ v = ((2 ^ v : Nat) : Int) := by norm_cast
  rw [e, wu16 h]
/-- What the masks say. -/
def Says (m : List Int) (s : List S64) : Prop := m.length = 12 ∧ ∀ c : Nat, c < 12 → ∃ a : Nat, rd m (c : Int) = a ∧ a < 65536 ∧ ∀ i : Nat, i < 12 → (a.testBit i = true ↔ ∃ x ∈ s, x.f1 = (c : Int) ∧ x.f0 = (i : Int))
theorem says_zero : Says [0, 0, 0, 0, 0, 0, 0, 0, 0, 0, 0, 0] [] := by
  refine ⟨rfl, fun c hc => ⟨0, ?_, by omega, fun i _ => by simp⟩⟩
  have : ∀ c, c < 12 → rd [0, 0, 0, 0, 0, 0, 0, 0, 0, 0, 0, 0] ((c : Nat) : Int) = 0 := by decide
  exact this c hc
theorem says_or {m : List Int} {s : List S64} {x : S64} (h : Says m s) (h0 : 0 ≤ x.f0 ∧ x.f0 < 12) (h1 : 0 ≤ x.f1 ∧ x.f1 < 12) : Says (orS m x) (s ++ [x]) := by
  obtain ⟨u, hu⟩ : ∃ u : Nat, x.f1 = (u : Int) := ⟨x.f1.toNat, by omega⟩
  obtain ⟨v, hv⟩ : ∃ v : Nat, x.f0 = (v : Int) := ⟨x.f0.toNat, by omega⟩
  refine ⟨by rw [orS_length]; exact h.1, fun c hc => ?_⟩
  obtain ⟨a, ha, hlt, hb⟩ := h.2 c hc
  have hp : 2 ^ v < 65536 := Nat.lt_of_lt_of_le (Nat.pow_lt_pow_right (by omega) (show v < 16 by omega)) (by decide)
  by_cases e : c = u
  · subst e
    refine ⟨a ||| 2 ^ v, ?_, Nat.or_lt_two_pow (n := 16) hlt hp, fun i hi => ?_⟩
    · unfold orS
      rw [hu, hv, Int.toNat_natCast, ha, one_bit (by omega), bits_or hlt hp, rd, Int.toNat_natCast, List.getD_eq_getElem?_getD, List.getElem?_set_self (by rw [h.1]; exact hc)]
      rfl
    · rw [Nat.testBit_or, Bool.or_eq_true, hb i hi, Nat.testBit_two_pow, decide_eq_true_iff]
      constructor
      · rintro (⟨y, hy, h2⟩ | h2)
        · exact ⟨y, List.mem_append_left _ hy, h2⟩
        · exact ⟨x, by simp, hu, by rw [hv, h2]⟩
      · rintro ⟨y, hy, h2⟩
        rcases List.mem_append.1 hy with hy | hy
        · exact .inl ⟨y, hy, h2⟩
        · rw [List.mem_singleton.1 hy] at h2
          right
          have := h2.2
          omega
  · refine ⟨a, ?_, hlt, fun i hi => ?_⟩
    · unfold orS
      rw [hu, Int.toNat_natCast, ← ha]
      simp only [rd, Int.toNat_natCast, List.getD_eq_getElem?_getD]
      rw [List.getElem?_set_ne (fun g => e g.symm)]
    · rw [hb i hi]
      constructor
      · rintro ⟨y, hy, h2⟩
        exact ⟨y, List.mem_append_left _ hy, h2⟩
      · rintro ⟨y, hy, h2⟩
        rcases List.mem_append.1 hy with hy | hy
        · exact ⟨y, hy, h2⟩
        · rw [List.mem_singleton.1 hy] at h2
          have := h2.1
          omega
theorem says_mask : ∀ (l s : List S64) (m : List Int), Says m s → (∀ x ∈ l, (0 ≤ x.f0 ∧ x.f0 < 12) ∧ (0 ≤ x.f1 ∧ x.f1 < 12)) → Says (l.foldl orS m) (s ++ l)
  | [], s, m, h, _ => by simpa using h
  | x :: l, s, m, h, hin => by
    have := says_mask l (s ++ [x]) (orS m x) (says_or h (hin x List.mem_cons_self).1 (hin x List.mem_cons_self).2) (fun y hy => hin y (List.mem_cons_of_mem _ hy))
    simpa using this
theorem says_all (l : List S64) (hin : ∀ x ∈ l, (0 ≤ x.f0 ∧ x.f0 < 12) ∧ (0 ≤ x.f1 ∧ x.f1 < 12)) : Says (maskL l) l := by
  have := says_mask l [] _ says_zero hin
  rw [List.nil_append] at this
  exact this
/-- The numbers of the bits of a set. -/
def listB (z : Int) : List Int := (cntI 12).filter (bitI z)

theorem listB_mem {a : Nat} (ha : a < 65536) {y : Int} : y ∈ listB (a : Int) ↔ ∃ i : Nat, i < 12 ∧ y = (i : Int) ∧ a.testBit i = true := by
  unfold listB
  rw [List.mem_filter, cntI_mem]
  constructor
  · rintro ⟨h1, h2⟩
    obtain ⟨i, rfl⟩ : ∃ i : Nat, y = (i : Int) := ⟨y.toNat, by omega⟩
    exact ⟨i, by omega, rfl, by rw [← bitI_is ha (by omega)]; exact h2⟩
  · rintro ⟨i, h1, rfl, h2⟩
    exact ⟨by omega, by rw [bitI_is ha h1]; exact h2⟩
theorem listB_lt (z : Int) : (listB z).Pairwise (fun a b => a < b) := (cntI_lt 12).sublist List.filter_sublist
theorem listB_length (z : Int) : (listB z).length ≤ 12 := Nat.le_trans (List.length_filter_le _ _) (by rw [cntI_length]; omega)
theorem in12 {n : Int} {l : List S64} (h : okC n l = true) : ∀ x ∈ l, (0 ≤ x.f0 ∧ x.f0 < 12) ∧ (0 ≤ x.f1 ∧ x.f1 < 12) := fun x hx => by
  obtain ⟨h1, h2, _, h4, _⟩ := okC_ok h
  have := h4 x hx
  omega
theorem listB_cover {n : Int} {l : List S64} (h : okC n l = true) {c : Int} (hc : 0 ≤ c ∧ c < n) : listB (rd (maskL l) c) = sort64 (coverF l c) := by
  obtain ⟨h1, h2, _, h4, h5⟩ := okC_ok h
  obtain ⟨u, rfl⟩ : ∃ u : Nat, c = (u : Int) := ⟨c.toNat, by omega⟩
  obtain ⟨a, ha, hlt, hb⟩ := (says_all l (in12 h)).2 u (by omega)
  refine sort_unique (listB_lt _) (coverF_nodup h5 _) (fun y => ?_)
  rw [ha, listB_mem hlt, coverF_mem]
  constructor
  · rintro ⟨i, hi, rfl, ht⟩
    exact (hb i hi).1 ht
  · rintro ⟨x, hx, g1, g2⟩
    have := (in12 h) x hx
    refine ⟨y.toNat, by omega, by omega, (hb y.toNat (by omega)).2 ⟨x, hx, g1, by omega⟩⟩

theorem l00In_n (n c : Int) (hn : 0 ≤ n ∧ n ≤ 12) : spec_l00In.f c 0 (wrap64 (n - 1)) = some (decide (0 ≤ c ∧ c < n)) := by
  rw [w64_id (by omega)]
  unfold spec_l00In.f
  split
  · exact some_dec (by omega)
  · exact some_decF (by omega)
theorem specOk_l1 (n : Int) (l : List S64) (hl : l.length ≤ 1048576) (p : Nat) (hp : p < l.length) (x : S64) : ∀ (m q k : Nat), q + m = p → m < k →
    spec_l03Ok.l1 k n l (p : Int) (q : Int) x.f0 x.f1 = if x ∈ (l.take p).drop q then some false else spec_l03Ok.l0 (k - m - 1) n l ((p + 1 : Nat) : Int) := by
  intro m
  induction m with
  | zero =>
    intro q k hq hk
    obtain ⟨k, rfl⟩ : ∃ m, k = m + 1 := ⟨k - 1, by omega⟩
    simp only [spec_l03Ok.l1]
    rw [if_neg (by omega), step64 hp (by omega), List.drop_eq_nil_of_le (by simp; omega), if_neg (by simp)]
    rfl
  | succ m ih =>
    intro q k hq hk
    obtain ⟨k, rfl⟩ : ∃ m, k = m + 1 := ⟨k - 1, by omega⟩
    have hql : q < l.length := by omega
    have r1 : rd_T64 l (q : Int) = l[q] := by
      rw [rd_T64, Int.toNat_natCast, List.getD_eq_getElem?_getD, List.getElem?_eq_getElem hql]; rfl
    have hd : (l.take p).drop q = l[q] :: (l.take p).drop (q + 1) := by
      rw [List.drop_eq_getElem_cons (by simp; omega)]
      simp
    simp only [spec_l03Ok.l1, r1]
    rw [if_pos (by omega), if_pos (by omega), if_pos (by omega), step64 hql (by omega), ih (q + 1) k (by omega) (by omega), hd]
    have e : k + 1 - (m + 1) - 1 = k - m - 1 := by omega
    rw [e]
    show (if samC l[q] x = true then _ else _) = _
    cases h : samC l[q] x with
    | true => rw [if_pos rfl, if_pos (by rw [samC_eq h]; simp)]
    | false =>
      have hne := samC_ne h
      rw [if_neg (by simp)]
      by_cases g : x ∈ (l.take p).drop (q + 1)
      · rw [if_pos g, if_pos (List.mem_cons_of_mem _ g)]
      · rw [if_neg g, if_neg (fun m => by rcases List.mem_cons.1 m with m | m; exact hne m.symm; exact g m)]
theorem specOk_l0 (n : Int) (hn : 0 ≤ n ∧ n ≤ 12) (l : List S64) (hl : l.length ≤ 1048576) (h8 : ∀ x ∈ l, InC x) : ∀ (rest : List S64) (p k : Nat), l.drop p = rest → rest.length * (l.length + 4) < k → spec_l03Ok.l0 k n l (p : Int) = some (okGo n (l.take p) rest) := by
  intro rest
  induction rest with
  | nil =>
    intro p k hd hk
    obtain ⟨k, rfl⟩ : ∃ m, k = m + 1 := ⟨k - 1, by omega⟩
    have := of_drop_nil hd
    simp only [spec_l03Ok.l0, okGo]
    rw [if_neg (by omega)]
  | cons y rest ih =>
    intro p k hd hk
    simp only [List.length_cons, Nat.succ_mul] at hk
    generalize hZ : rest.length * (l.length + 4) = Z at hk
    obtain ⟨k, rfl⟩ : ∃ m, k = m + 2 := ⟨k - 2, by omega⟩
    obtain ⟨hp, hd', hx⟩ := of_drop hd
    have hy : l[p] = y := by
      have := hx z64
      rw [Int.toNat_natCast, List.getD_eq_getElem?_getD, List.getElem?_eq_getElem hp] at this
      exact this
    have hin := h8 y (List.mem_of_mem_drop (by rw [hd]; exact List.mem_cons_self))
    have i0 := hin.1
    have i1 := hin.2
    have I := fun k' hk' => ih (p + 1) k' hd' hk'
    rw [List.take_succ_eq_append_getElem hp, hy] at I
    simp only [spec_l03Ok.l0, rd_T64, hx, okGo]
    rw [if_pos (by omega), if_pos (by omega), w64_id (a := y.f0) (by omega), w64_id (a := y.f1) (by omega), l00In_n n _ hn, l00In_n n _ hn]
    simp only [Option.bind_some]
    have bad : spec_l03Ok.j2 (k + 1) n l (p : Int) true y.f0 y.f1 = some false := by simp [spec_l03Ok.j2]
    by_cases h0 : 0 ≤ y.f0 ∧ y.f0 < n
    · rw [decide_eq_true h0, if_pos rfl]
      by_cases h1 : 0 ≤ y.f1 ∧ y.f1 < n
      · rw [decide_eq_true h1, if_pos rfl]
        by_cases h2 : y.f0 = y.f1
        · rw [beq_iff_eq.2 h2, bad, if_neg (fun g => g.2.2.1 h2)]
        · have e := specOk_l1 n l hl p hp y p 0 k (by omega) (by omega)
          have e' : spec_l03Ok.l1 k n l (p : Int) 0 y.f0 y.f1 = _ := e
          rw [beq_eq_false_iff_ne.2 h2]
          simp only [spec_l03Ok.j2, Bool.false_eq_true, if_false]
          rw [e', List.drop_zero]
          by_cases h3 : y ∈ l.take p
          · rw [if_pos h3, if_neg (fun g => g.2.2.2 h3)]
          · rw [if_neg h3, if_pos ⟨h0, h1, h2, h3⟩, I _ (by omega)]
      · rw [decide_eq_false h1, if_neg (by simp), bad, if_neg (fun g => h1 g.2.1)]
    · rw [decide_eq_false h0, if_neg (by simp), bad, if_neg (fun g => h0 g.1)]
theorem specOk_is (n : Int) (l : List S64) (hl : l.length ≤ 1048576) (h8 : ∀ x ∈ l, InC x) (k : Nat) (hk : l.length * (l.length + 4) + 1 < k) : spec_l03Ok.f k n l = some (okC n l) := by
  obtain ⟨k, rfl⟩ : ∃ m, k = m + 1 := ⟨k - 1, by omega⟩
  have e0 : spec_l00In.f n 0 12 = some (decide (0 ≤ n ∧ n ≤ 12)) := by
    unfold spec_l00In.f
    split
    · exact some_dec (by omega)
    · exact some_decF (by omega)
  unfold spec_l03Ok.f okC
  rw [e0]
  simp only [Option.bind_some]
  by_cases h0 : 0 ≤ n ∧ n ≤ 12
  · rw [decide_eq_true h0, if_pos rfl]
    simp only [spec_l03Ok.j0]
    by_cases h2 : (l.length : Int) > 60
    · rw [decide_eq_true h2, if_pos rfl, decide_eq_false (by omega)]; rfl
    · have e := specOk_l0 n h0 l hl h8 l 0 k rfl (by omega)
      have e' : spec_l03Ok.l0 k n l 0 = _ := e
      rw [decide_eq_false h2, if_neg (by simp), e', decide_eq_true (by omega)]; rfl
  · rw [decide_eq_false h0, if_neg (by simp), decide_eq_false (fun g => h0 ⟨g.1, g.2.1⟩)]
    simp [spec_l03Ok.j0]
/-- The code of covers, and whether a number is as told. -/
def askC (n : Int) (l : List S64) (fine : Bool) : Int := if okC n l = true then (if fine = true then 0 else 2) else 1
theorem asked_is (n : Int) (l : List S64) (fine : Bool) (hl : l.length ≤ 1048576) (h8 : ∀ x ∈ l, InC x) (k : Nat) (hk : l.length * (l.length + 4) + 1 < k) : spec_l03Asked.f k n l fine = some (askC n l fine) := by
  unfold spec_l03Asked.f askC
  rw [specOk_is n l hl h8 k hk]
  simp only [Option.bind_some]
  repeat' split
  all_goals rfl

theorem l00In_some (c a b : Int) : ∃ r, spec_l00In.f c a b = some r := by
  unfold spec_l00In.f
  split <;> exact ⟨_, rfl⟩
theorem asked_n (n : Int) (l : List S64) (c : Int) (b : Bool) (hb : spec_l00In.f c 0 (wrap64 (n - 1)) = some b) : askC n l b = askC n l (decide (0 ≤ c ∧ c < n)) := by
  unfold askC
  by_cases h : okC n l = true
  · rw [if_pos h, if_pos h]
    obtain ⟨h1, h2, _⟩ := okC_ok h
    rw [l00In_n n c ⟨h1, h2⟩, Option.some.injEq] at hb
    rw [hb]
  · rw [if_neg h, if_neg h]
theorem askC_0 {n : Int} {l : List S64} {b : Bool} (h : askC n l b = 0) : okC n l = true ∧ b = true := by
  unfold askC at h
  split at h
  · rename_i h1
    split at h
    · exact ⟨h1, by assumption⟩
    · omega
  · omega

theorem coverAt_l0 (l : List S64) (x : S64) (hl : l.length ≤ 1152921504606846976) : ∀ (rest : List S64) (p k : Nat), l.drop p = rest → rest.length < k → ∃ r : Int, impl_Cover_116.l0 k l (l.length : Int) (p : Int) x.f0 x.f1 = some r ∧ (r ≥ 0 ↔ x ∈ rest) := by
  intro rest
  induction rest with
  | nil =>
    intro p k hd hk
    obtain ⟨k, rfl⟩ : ∃ m, k = m + 1 := ⟨k - 1, by simp at hk; omega⟩
    have := of_drop_nil hd
    refine ⟨-1, ?_, by simp⟩
    simp only [impl_Cover_116.l0]
    rw [if_neg (by omega)]
  | cons y rest ih =>
    intro p k hd hk
    simp only [List.length_cons] at hk
    obtain ⟨k, rfl⟩ : ∃ m, k = m + 1 := ⟨k - 1, by omega⟩
    obtain ⟨hp, hd', hx⟩ := of_drop hd
    obtain ⟨r, hr1, hr2⟩ := ih (p + 1) k hd' (by omega)
    simp only [impl_Cover_116.l0, rd_T64, hx]
    rw [if_pos (by omega), if_pos (by omega), if_pos (by omega), step64 hp hl, hr1]
    show ∃ r_1, (if samC x y = true then some (p : Int) else some r) = some r_1 ∧ (r_1 ≥ 0 ↔ x ∈ y :: rest)
    cases h : samC x y with
    | true =>
      rw [if_pos rfl]
      exact ⟨p, rfl, ⟨fun _ => by rw [samC_eq h]; simp, fun _ => by omega⟩⟩
    | false =>
      rw [if_neg (by simp)]
      refine ⟨r, rfl, hr2.trans ?_⟩
      have := samC_ne h
      simp [this]
theorem coverHas_is (l : List S64) (x : S64) (hl : l.length ≤ 1152921504606846976) (k : Nat) (hk : l.length < k) : impl_Cover_101.f k l x.f0 x.f1 = some (decide (x ∈ l)) := by
  obtain ⟨r, h1, h2⟩ := coverAt_l0 l x hl l 0 k rfl hk
  unfold impl_Cover_101.f impl_Cover_116.f
  have h1' : impl_Cover_116.l0 k l (l.length : Int) 0 x.f0 x.f1 = some r := h1
  rw [h1']
  simp only [Option.bind_some]
  exact some_dec h2
theorem isChain_is (n c : Int) : impl_isChain.f n c = some (decide (0 ≤ c ∧ c < n)) := by
  unfold impl_isChain.f
  split
  · exact some_dec (by omega)
  · exact some_decF (by omega)
theorem validCovers_l0 (n : Int) (l : List S64) (hl : l.length ≤ 1048576) (h8 : ∀ x ∈ l, InC x) : ∀ (rest : List S64) (p k : Nat), l.drop p = rest → rest.length + l.length + 1 < k → impl_ValidCovers.l0 k n l l (l.length : Int) (p : Int) = some (okGo n (l.take p) rest) := by
  intro rest
  induction rest with
  | nil =>
    intro p k hd hk
    obtain ⟨k, rfl⟩ : ∃ m, k = m + 1 := ⟨k - 1, by omega⟩
    have := of_drop_nil hd
    simp only [impl_ValidCovers.l0, okGo]
    rw [if_neg (by omega)]
  | cons y rest ih =>
    intro p k hd hk
    simp only [List.length_cons] at hk
    obtain ⟨k, rfl⟩ : ∃ m, k = m + 1 := ⟨k - 1, by omega⟩
    obtain ⟨hp, hd', hx⟩ := of_drop hd
    have hy : l[p] = y := by
      have := hx z64
      rw [Int.toNat_natCast, List.getD_eq_getElem?_getD, List.getElem?_eq_getElem hp] at this
      exact this
    have hin := h8 y (List.mem_of_mem_drop (by rw [hd]; exact List.mem_cons_self))
    have i0 := hin.1
    have i1 := hin.2
    have I := ih (p + 1) k hd' (by omega)
    rw [List.take_succ_eq_append_getElem hp, hy] at I
    simp only [impl_ValidCovers.l0, rd_T64, hx, okGo]
    rw [if_pos (by omega), if_pos (by omega), if_pos (by omega), w64_id (a := y.f0) (by omega), w64_id (a := y.f1) (by omega), isChain_is, isChain_is]
    simp only [Option.bind_some]
    by_cases h0 : 0 ≤ y.f0 ∧ y.f0 < n
    · rw [decide_eq_true h0, if_pos rfl]
      by_cases h1 : 0 ≤ y.f1 ∧ y.f1 < n
      · rw [decide_eq_true h1, if_pos rfl]
        by_cases h2 : y.f0 = y.f1
        · rw [if_pos h2, if_neg (fun g => g.2.2.1 h2)]
        · rw [if_neg h2, if_pos (by omega), Int.toNat_natCast, coverHas_is (l.take p) y (by simp; omega) k (by simp; omega)]
          simp only [Option.bind_some]
          by_cases h3 : y ∈ l.take p
          · rw [decide_eq_true h3, if_pos rfl, if_neg (fun g => g.2.2.2 h3)]
          · rw [decide_eq_false h3, if_neg (by simp), if_pos ⟨h0, h1, h2, h3⟩, step64 hp (by omega), I]
      · rw [decide_eq_false h1, if_neg (by simp), if_neg (fun g => h1 g.2.1)]
    · rw [decide_eq_false h0, if_neg (by simp), if_neg (fun g => h0 g.1)]
theorem validCovers_is (n : Int) (l : List S64) (hl : l.length ≤ 1048576) (h8 : ∀ x ∈ l, InC x) (k : Nat) (hk : 2 * l.length + 2 < k) : impl_ValidCovers.f k n l = some (okC n l) := by
  obtain ⟨k, rfl⟩ : ∃ m, k = m + 1 := ⟨k - 1, by omega⟩
  unfold impl_ValidCovers.f okC
  by_cases h0 : n < 0
  · rw [if_pos h0, decide_eq_false (by omega)]
    simp [impl_ValidCovers.j0]
  · rw [if_neg h0]
    by_cases h1 : n > 12
    · rw [if_pos h1, decide_eq_false (by omega)]
      simp [impl_ValidCovers.j0]
    · rw [if_neg h1]
      simp only [impl_ValidCovers.j0]
      by_cases h2 : (l.length : Int) > 60
      · rw [decide_eq_true h2, if_pos rfl, decide_eq_false (by omega)]; rfl
      · have e := validCovers_l0 n l hl h8 l 0 k rfl (by omega)
        have e' : impl_ValidCovers.l0 k n l l (l.length : Int) 0 = _ := e
        rw [decide_eq_false h2, if_neg (by simp), e', decide_eq_true (by omega)]; rfl

theorem chainCode_l0 (n : Int) (cs : List Int) (hl : cs.length ≤ 1048576) : ∀ (rest : List Int) (p k : Nat), cs.drop p = rest → rest.length < k → impl_chainCode.l0 k n cs (cs.length : Int) (p : Int) = some (if ∀ c ∈ rest, 0 ≤ c ∧ c < n then 0 else 2) := by
  intro rest
  induction rest with
  | nil =>
    intro p k hd hk
    obtain ⟨k, rfl⟩ : ∃ m, k = m + 1 := ⟨k - 1, by omega⟩
    have := of_drop_nil hd
    simp only [impl_chainCode.l0]
    rw [if_neg (by omega), if_pos (by simp)]
  | cons y rest ih =>
    intro p k hd hk
    simp only [List.length_cons] at hk
    obtain ⟨k, rfl⟩ : ∃ m, k = m + 1 := ⟨k - 1, by omega⟩
    obtain ⟨hp, hd', hx⟩ := of_drop hd
    simp only [impl_chainCode.l0, rd, hx]
    rw [if_pos (by omega), if_pos (by omega), if_pos (by omega), isChain_is, step64 hp (by omega), ih (p + 1) k hd' (by omega)]
    simp only [Option.bind_some]
    by_cases h : 0 ≤ y ∧ y < n
    · rw [decide_eq_true h, if_pos rfl]
      by_cases g : ∀ c ∈ rest, 0 ≤ c ∧ c < n
      · rw [if_pos g, if_pos (fun c hc => by rcases List.mem_cons.1 hc with rfl | hc; exact h; exact g c hc)]
      · rw [if_neg g, if_neg (fun f => g (fun c hc => f c (List.mem_cons_of_mem _ hc)))]
    · rw [decide_eq_false h, if_neg (by simp), if_neg (fun f => h (f y List.mem_cons_self))]
theorem chainCode_is (n : Int) (l : List S64) (cs : List Int) (hc : cs.length ≤ 1048576) (hl : l.length ≤ 1048576) (h8 : ∀ x ∈ l, InC x) (k : Nat) (hk : 2 * l.length + cs.length + 2 < k) : impl_chainCode.f k n l cs = some (askC n l (decide (∀ c ∈ cs, 0 ≤ c ∧ c < n))) := by
  unfold impl_chainCode.f askC
  rw [validCovers_is n l hl h8 k (by omega)]
  simp only [Option.bind_some]
  by_cases h : okC n l = true
  · have e := chainCode_l0 n cs hc cs 0 k rfl (by omega)
    have e' : impl_chainCode.l0 k n cs (cs.length : Int) 0 = _ := e
    rw [if_pos h, if_pos h, e']
    by_cases g : ∀ c ∈ cs, 0 ≤ c ∧ c < n
    · rw [if_pos g, decide_eq_true g, if_pos rfl]
    · rw [if_neg g, decide_eq_false g, if_neg (by simp)]
  · rw [if_neg h, if_neg h]

theorem bits_and {a b : Nat} (ha : a < 65536) (hb : b < 65536) : Go.bits .and .u16 (a : Int) (b : Int) = ((a &&& b : Nat) : Int) := by
  have hab : a &&& b < 65536 := Nat.lt_of_le_of_lt Nat.and_le_left ha
  have : Go.bits .and .u16 (a : Int) (b : Int) = IntKind.u16.wrap (((BitVec.ofInt 16 (a : Int) &&& BitVec.ofInt 16 (b : Int)).toNat : Nat) : Int) := rfl
  rw [this, BitVec.toNat_and]
  have e : ∀ x : Nat, x < 65536 → (BitVec.ofInt 16 (x : Int)).toNat = x := fun x hx => by
    rw [BitVec.toNat_ofInt]
    omega
  rw [e a ha, e b hb, wu16 hab]
theorem and_zero (a b : Nat) : a &&& b = 0 ↔ ∀ i, ¬ (a.testBit i = true ∧ b.testBit i = true) := by
  constructor
  · intro h i g
    have : (a &&& b).testBit i = true := by rw [Nat.testBit_and, g.1, g.2]; rfl
    rw [h, Nat.zero_testBit] at this
    cases this
  · intro h
    apply Nat.eq_of_testBit_eq
    intro i
    rw [Nat.zero_testBit, Nat.testBit_and]
    cases h1 : a.testBit i with
    | false => rfl
    | true =>
      cases h2 : b.testBit i with
      | false => rfl
      | true => exact absurd ⟨h1, h2⟩ (h i)
theorem bit_lt {a i : Nat} (ha : a < 4096) (h : a.testBit i = true) : i < 12 := by
  rcases Nat.lt_or_ge i 12 with g | g
  · exact g
  · rw [Nat.testBit_lt_two_pow (Nat.lt_of_lt_of_le ha (Nat.pow_le_pow_right (by omega) g : 2 ^ 12 ≤ 2 ^ i))] at h
    cases h
theorem lt_of_bits {a : Nat} (h : ∀ i, a.testBit i = true → i < 12) : a < 4096 := by
  have : a < 2 ^ 12 := Nat.lt_pow_two_of_testBit a (fun i hi => by
    cases g : a.testBit i with
    | false => rfl
    | true => have := h i g; omega)
  exact this
theorem two_lt {x : Nat} (hx : x < 12) : 2 ^ x < 65536 := Nat.lt_of_lt_of_le (Nat.pow_lt_pow_right (by omega) (show x < 16 by omega)) (by decide)
/-- A list has those numbers whose bits are set. -/
def Same (th : List Int) (a : Nat) : Prop := ∀ y : Int, y ∈ th ↔ ∃ i : Nat, y = (i : Int) ∧ a.testBit i = true
theorem mem_sort64 {l : List Int} {y : Int} : y ∈ sort64 l ↔ y ∈ l := (List.mergeSort_perm ..).mem_iff
theorem any_false {th ys : List Int} : anyIn th ys = false ↔ ∀ o ∈ ys, o ∉ th := by
  unfold anyIn
  rw [List.any_eq_false]
  constructor
  · intro h o ho g
    exact h o ho (by simpa using g)
  · intro h o ho g
    exact h o ho (by simpa using g)
theorem over_any {n : Int} {l : List S64} (h : okC n l = true) {a : Nat} (ha : a < 4096) {th : List Int} (ht : Same th a) {c : Nat} (hc : c < 12) : Go.bits .and .u16 (rd (maskL l) (c : Int)) a = 0 ↔ anyIn th (sort64 (coverF l c)) = false := by
  obtain ⟨v, hv, hlt, hb⟩ := (says_all l (in12 h)).2 c hc
  rw [hv, bits_and hlt (by omega), any_false]
  constructor
  · intro g o ho hm
    have g' : v &&& a = 0 := by omega
    obtain ⟨x, hx, e1, e2⟩ := coverF_mem.1 (mem_sort64.1 ho)
    obtain ⟨i, hi, ht'⟩ := (ht o).1 hm
    exact (and_zero _ _).1 g' i ⟨(hb i (bit_lt ha ht')).2 ⟨x, hx, e1, by rw [e2, hi]⟩, ht'⟩
  · intro g
    have : v &&& a = 0 := (and_zero _ _).2 (fun i hi => by
      have hi12 := bit_lt ha hi.2
      obtain ⟨x, hx, e1, e2⟩ := (hb i hi12).1 hi.1
      exact g (i : Int) (mem_sort64.2 (coverF_mem.2 ⟨x, hx, e1, e2⟩)) ((ht _).2 ⟨i, rfl, hi.2⟩))
    rw [this]; rfl
theorem listB_same {a : Nat} (ha : a < 4096) : Same (listB (a : Int)) a := fun y => by
  rw [listB_mem (by omega)]
  constructor
  · rintro ⟨i, _, h2, h3⟩
    exact ⟨i, h2, h3⟩
  · rintro ⟨i, h2, h3⟩
    exact ⟨i, bit_lt ha h3, h2, h3⟩
theorem lt_unique {r s : List Int} (hr : r.Pairwise (fun a b => a < b)) (hs : s.Pairwise (fun a b => a < b)) (h : ∀ x, x ∈ r ↔ x ∈ s) : r = s := by
  have nd : s.Nodup := hs.imp (fun h => by omega)
  rw [sort_unique hr nd h, ← sort_unique hs nd (fun _ => Iff.rfl)]
theorem freeL_lt {l : List S64} {th : List Int} (h : th.Pairwise (fun a b => a < b)) : (freeL l th).Pairwise (fun a b => a < b) := h.sublist List.filter_sublist
theorem freeL_mem {l : List S64} {th : List Int} {c : Int} : c ∈ freeL l th ↔ c ∈ th ∧ anyIn th (sort64 (coverF l c)) = false := by
  unfold freeL
  rw [List.mem_filter]
  constructor
  · rintro ⟨h1, h2⟩
    exact ⟨h1, by simpa using h2⟩
  · rintro ⟨h1, h2⟩
    exact ⟨h1, by simpa using h2⟩
theorem all_is {n : Int} (hn : 0 ≤ n ∧ n ≤ 12) : spec_l03All.f n = some ((2 ^ n.toNat - 1 : Nat) : Int) := by
  have key : ∀ k : Nat, k < 13 → spec_l03All.f (k : Int) = some ((2 ^ k - 1 : Nat) : Int) := by decide
  have := key n.toNat (by omega)
  rwa [show ((n.toNat : Nat) : Int) = n by omega] at this
theorem all_lt {k : Nat} (hk : k ≤ 12) : 2 ^ k - 1 < 4096 := by
  have : 2 ^ k ≤ 2 ^ 12 := Nat.pow_le_pow_right (by omega) hk
  have h : (2 : Nat) ^ 12 = 4096 := by decide
  omega
theorem cntI_listB {k : Nat} (hk : k ≤ 12) : cntI k = listB ((2 ^ k - 1 : Nat) : Int) := by
  refine lt_unique (cntI_lt k) (listB_lt _) (fun y => ?_)
  rw [cntI_mem, listB_same (all_lt hk) y]
  constructor
  · intro h
    exact ⟨y.toNat, by omega, by rw [Nat.testBit_two_pow_sub_one]; exact decide_eq_true (by omega)⟩
  · rintro ⟨i, rfl, hi⟩
    rw [Nat.testBit_two_pow_sub_one, decide_eq_true_iff] at hi
    omega
theorem freeL_length (l : List S64) (th : List Int) : (freeL l th).length ≤ th.length := List.length_filter_le _ _
theorem implFree_is {l : List S64} {th : List Int} (hl : l.length ≤ 1048576) (h8 : ∀ x ∈ l, InC x) (ht : th.length ≤ 1048576) : impl_free.f l th = some (freeL l th) := by
  unfold impl_free.f
  rw [if_pos ⟨hl, h8, ht⟩]

theorem counting_l0 (n : Nat) (hn : n ≤ 1048576) : ∀ (m i k : Nat), i + m = n → m < k → impl_counting.l0 k (cntI i) (n : Int) (i : Int) = some (cntI n) := by
  intro m
  induction m with
  | zero =>
    intro i k hi hk
    obtain ⟨k, rfl⟩ : ∃ m, k = m + 1 := ⟨k - 1, by omega⟩
    simp only [impl_counting.l0]
    rw [if_neg (by omega), show i = n by omega]
  | succ m ih =>
    intro i k hi hk
    obtain ⟨k, rfl⟩ : ∃ m, k = m + 1 := ⟨k - 1, by omega⟩
    have hc : cntI i ++ [(i : Int)] = cntI (i + 1) := by simp [cntI, List.range_succ]
    simp only [impl_counting.l0]
    rw [if_pos (by omega), if_pos (by rw [cntI_length]; omega), step64 (show i < n by omega) (by omega), hc, ih (i + 1) k (by omega) (by omega)]
theorem counting_is (n : Nat) (hn : n ≤ 1048576) (k : Nat) (hk : n < k) : impl_counting.f k (n : Int) = some (cntI n) := by
  unfold impl_counting.f
  exact counting_l0 n hn n 0 k (by omega) hk

/-- The numbers of a list that lie not in another. -/
def lessL (th away : List Int) : List Int := th.filter (fun c => !away.contains c)
theorem contains64_k (l : List Int) (a : Int) (hl : l.length ≤ 1152921504606846976) (k : Nat) (hk : l.length < k) : slices_Contains_int64_int64.f k l a = some (l.contains a) := by
  obtain ⟨r, h1, h2⟩ := index64_l0 l a hl l.length 0 k (by omega) (by simp) hk
  unfold slices_Contains_int64_int64.f slices_Index_int64_int64.f
  rw [h1]
  simp only [Option.bind_some, Option.some.injEq]
  by_cases hr : r ≥ 0
  · rw [decide_eq_true hr]
    exact (h2.1 hr).symm
  · rw [decide_eq_false hr]
    cases hc : l.contains a with
    | false => rfl
    | true => exact absurd (h2.2 hc) hr
theorem lessL_mem {th away : List Int} {c : Int} : c ∈ lessL th away ↔ c ∈ th ∧ c ∉ away := by
  unfold lessL
  rw [List.mem_filter]
  constructor
  · rintro ⟨h1, h2⟩
    exact ⟨h1, by simpa using h2⟩
  · rintro ⟨h1, h2⟩
    exact ⟨h1, by simpa using h2⟩
theorem lessL_length (th away : List Int) : (lessL th away).length ≤ th.length := List.length_filter_le _ _
theorem lessL_short {th away : List Int} {c : Int} (h1 : c ∈ th) (h2 : c ∈ away) : (lessL th away).length < th.length := by
  unfold lessL
  exact List.length_filter_lt_length_iff_exists.2 ⟨c, h1, by simpa using h2⟩
theorem free_sub {l : List S64} {th : List Int} (h : freeL l th ≠ []) : (lessL th (freeL l th)).length < th.length := by
  obtain ⟨c, r, hc⟩ := List.exists_cons_of_ne_nil h
  have : c ∈ freeL l th := by rw [hc]; exact List.mem_cons_self
  exact lessL_short (freeL_mem.1 this).1 this
/-- A set without another. -/
theorem andNot_is {a b : Nat} (ha : a < 65536) (hb : b < 65536) : ∃ c : Nat, Go.bits .andNot .u16 (a : Int) (b : Int) = (c : Int) ∧ c ≤ a ∧ ∀ i, c.testBit i = true ↔ a.testBit i = true ∧ b.testBit i = false := by
  have hdef : Go.bits .andNot .u16 (a : Int) (b : Int) = IntKind.u16.wrap (((BitVec.ofInt 16 (a : Int) &&& ~~~ BitVec.ofInt 16 (b : Int)).toNat : Nat) : Int) := rfl
  obtain ⟨c, hc⟩ : ∃ c, c = (BitVec.ofInt 16 (a : Int) &&& ~~~ BitVec.ofInt 16 (b : Int)).toNat := ⟨_, rfl⟩
  have hlt : c < 65536 := by rw [hc]; exact BitVec.isLt _
  have hbit : ∀ i, c.testBit i = true ↔ a.testBit i = true ∧ b.testBit i = false := by
    intro i
    rw [hc, BitVec.testBit_toNat, BitVec.getLsbD_and, BitVec.getLsbD_not, BitVec.ofInt_natCast, BitVec.ofInt_natCast, BitVec.getLsbD_ofNat, BitVec.getLsbD_ofNat]
    by_cases hi : i < 16
    · rw [decide_eq_true hi]
      cases a.testBit i <;> cases b.testBit i <;> simp
    · have : a.testBit i = false := Nat.testBit_lt_two_pow (Nat.lt_of_lt_of_le ha (Nat.pow_le_pow_right (by omega) (show 16 ≤ i by omega) : 2 ^ 16 ≤ 2 ^ i))
      rw [decide_eq_false hi, this]
      simp
  refine ⟨c, by rw [hdef, ← hc, wu16 hlt], ?_, hbit⟩
  have e : a &&& c = c := by
    apply Nat.eq_of_testBit_eq
    intro i
    rw [Nat.testBit_and]
    cases h : c.testBit i with
    | false => simp
    | true => rw [((hbit i).1 h).1]; rfl
  rw [← e]
  exact Nat.and_le_left
theorem less_listB {a b : Nat} (ha : a < 4096) (hb : b < 4096) : ∃ c : Nat, Go.bits .andNot .u16 (a : Int) (b : Int) = (c : Int) ∧ c < 4096 ∧ listB (c : Int) = lessL (listB (a : Int)) (listB (b : Int)) := by
  obtain ⟨c, h1, h2, h3⟩ := andNot_is (show a < 65536 by omega) (show b < 65536 by omega)
  refine ⟨c, h1, by omega, lt_unique (listB_lt _) ((listB_lt _).sublist List.filter_sublist) (fun y => ?_)⟩
  rw [listB_same (show c < 4096 by omega) y, lessL_mem, listB_same ha y, listB_same hb y]
  constructor
  · rintro ⟨i, rfl, hi⟩
    obtain ⟨g1, g2⟩ := (h3 i).1 hi
    refine ⟨⟨i, rfl, g1⟩, ?_⟩
    rintro ⟨j, hj, g3⟩
    have : j = i := by omega
    rw [this, g2] at g3
    cases g3
  · rintro ⟨⟨i, rfl, g1⟩, g2⟩
    refine ⟨i, rfl, (h3 i).2 ⟨g1, ?_⟩⟩
    cases g : b.testBit i with
    | false => rfl
    | true => exact absurd ⟨i, rfl, g⟩ g2
theorem listB_nil {a : Nat} (ha : a < 4096) : listB (a : Int) = [] ↔ a = 0 := by
  constructor
  · intro h
    apply Nat.eq_of_testBit_eq
    intro i
    rw [Nat.zero_testBit]
    cases g : a.testBit i with
    | false => rfl
    | true =>
      have : (i : Int) ∈ listB (a : Int) := (listB_same ha _).2 ⟨i, rfl, g⟩
      rw [h] at this
      cases this
  · intro h
    subst h
    decide

theorem bitN_is {x : Nat} (hx : x < 12) : bitN x = ((2 ^ x : Nat) : Int) := by
  have e : (2 : Int) ^ x = ((2 ^ x : Nat) : Int) := by norm_cast
  unfold bitN
  rw [e, wu16 (two_lt hx)]
theorem has_bit {a x : Nat} (ha : a < 65536) (hx : x < 12) : Go.bits .and .u16 (a : Int) (bitN x) ≠ 0 ↔ a.testBit x = true := by
  rw [bitN_is hx, bits_and ha (two_lt hx)]
  constructor
  · intro h
    cases g : a.testBit x with
    | true => rfl
    | false =>
      exfalso
      apply h
      have : a &&& 2 ^ x = 0 := (and_zero _ _).2 (fun i hi => by
        rw [Nat.testBit_two_pow, decide_eq_true_iff] at hi
        rw [← hi.2, g] at hi
        cases hi.1)
      rw [this]; rfl
  · intro h g
    have g' : a &&& 2 ^ x = 0 := by omega
    exact (and_zero _ _).1 g' x ⟨h, by rw [Nat.testBit_two_pow]; simp⟩
theorem freeB_spec {m : List Int} (hm : ∀ c : Nat, c < 12 → ∃ a : Nat, rd m (c : Int) = a ∧ a < 65536) {s : Nat} (hs : s < 65536) : ∀ x : Nat, x ≤ 12 → ∃ b : Nat, freeB m s x = b ∧ b < 65536 ∧ ∀ i : Nat, b.testBit i = true ↔ i < x ∧ s.testBit i = true ∧ Go.bits .and .u16 (rd m (i : Int)) s = 0
  | 0, _ => ⟨0, rfl, by omega, fun i => by simp⟩
  | x + 1, hx => by
    obtain ⟨b, h1, h2, h3⟩ := freeB_spec hm hs x (by omega)
    by_cases c : Go.bits .and .u16 (s : Int) (bitN x) ≠ 0 ∧ Go.bits .and .u16 (rd m (x : Int)) s = 0
    · refine ⟨b ||| 2 ^ x, ?_, Nat.or_lt_two_pow (n := 16) h2 (two_lt (by omega)), fun i => ?_⟩
      · simp only [freeB]
        rw [if_pos c, h1, bitN_is (by omega), bits_or h2 (two_lt (by omega))]
      · rw [Nat.testBit_or, Bool.or_eq_true, h3, Nat.testBit_two_pow, decide_eq_true_iff]
        constructor
        · rintro (g | g)
          · exact ⟨by omega, g.2⟩
          · subst g
            exact ⟨by omega, (has_bit hs (by omega)).1 c.1, c.2⟩
        · rintro ⟨g1, g2⟩
          by_cases e : i = x
          · exact .inr e.symm
          · exact .inl ⟨by omega, g2⟩
    · refine ⟨b, ?_, h2, fun i => ?_⟩
      · simp only [freeB]
        rw [if_neg c, h1]
      · rw [h3]
        constructor
        · rintro ⟨g1, g2⟩
          exact ⟨by omega, g2⟩
        · rintro ⟨g1, g2⟩
          refine ⟨?_, g2⟩
          by_cases e : i = x
          · subst e
            exact absurd ⟨(has_bit hs (by omega)).2 g2.1, g2.2⟩ c
          · omega
/-- What is free of a set, as a set. -/
theorem free_is {n : Int} {l : List S64} (h : okC n l = true) {a : Nat} (ha : a < 4096) : ∃ b : Nat, freeB (maskL l) (a : Int) 12 = (b : Int) ∧ b < 4096 ∧ (∀ i : Nat, b.testBit i = true → a.testBit i = true) ∧ listB (b : Int) = freeL l (listB (a : Int)) := by
  have S := says_all l (in12 h)
  obtain ⟨b, h1, h2, h3⟩ := freeB_spec (m := maskL l) (fun c hc => by obtain ⟨v, hv, hlt, _⟩ := S.2 c hc; exact ⟨v, hv, hlt⟩) (show a < 65536 by omega) 12 (by omega)
  have hb : b < 4096 := lt_of_bits (fun i hi => ((h3 i).1 hi).1)
  refine ⟨b, h1, hb, fun i hi => ((h3 i).1 hi).2.1, lt_unique (listB_lt _) (freeL_lt (listB_lt _)) (fun y => ?_)⟩
  rw [listB_same hb y, freeL_mem, listB_same ha y]
  constructor
  · rintro ⟨i, rfl, hi⟩
    obtain ⟨g1, g2, g3⟩ := (h3 i).1 hi
    exact ⟨⟨i, rfl, g2⟩, (over_any h ha (listB_same ha) g1).1 g3⟩
  · rintro ⟨⟨i, rfl, g2⟩, g3⟩
    have g1 := bit_lt ha g2
    exact ⟨i, rfl, (h3 i).2 ⟨g1, g2, (over_any h ha (listB_same ha) g1).2 g3⟩⟩

theorem less_l0 (th away : List Int) (ht : th.length ≤ 1048576) (ha : away.length ≤ 1048576) : ∀ (rest : List Int) (p k : Nat) (acc : List Int), th.drop p = rest → rest.length + away.length < k → acc.length ≤ p → impl_less.l0 k away acc th (th.length : Int) (p : Int) = some (acc ++ lessL rest away) := by
  intro rest
  induction rest with
  | nil =>
    intro p k acc hd hk hacc
    obtain ⟨k, rfl⟩ : ∃ m, k = m + 1 := ⟨k - 1, by omega⟩
    have := of_drop_nil hd
    simp only [impl_less.l0, lessL, List.filter_nil, List.append_nil]
    rw [if_neg (by omega)]
  | cons y rest ih =>
    intro p k acc hd hk hacc
    simp only [List.length_cons] at hk
    obtain ⟨k, rfl⟩ : ∃ m, k = m + 1 := ⟨k - 1, by omega⟩
    obtain ⟨hp, hd', hx⟩ := of_drop hd
    simp only [impl_less.l0, rd, hx]
    rw [if_pos (by omega), if_pos (by omega), if_pos (by omega), contains64_k away y (by omega) k (by omega), step64 hp (by omega)]
    simp only [Option.bind_some, lessL, List.filter_cons]
    cases hc : away.contains y with
    | true =>
      rw [if_pos rfl, ih (p + 1) k acc hd' (by omega) (by omega)]
      simp [lessL]
    | false =>
      rw [if_neg (by simp), if_pos (by omega), ih (p + 1) k (acc ++ [y]) hd' (by omega) (by simp; omega)]
      simp [lessL]
theorem less_is (th away : List Int) (ht : th.length ≤ 1048576) (ha : away.length ≤ 1048576) (k : Nat) (hk : th.length + away.length < k) : impl_less.f k th away = some (lessL th away) := by
  unfold impl_less.f
  have := less_l0 th away ht ha th 0 k [] rfl hk (by simp)
  simpa using this

/-- Round by round: what is taken up, and what is left. -/
def roundsL (l : List S64) : Nat → List Int → List (List Int) × List Int
  | 0, th => ([], th)
  | k + 1, th => if freeL l th = [] then ([], th) else (freeL l th :: (roundsL l k (lessL th (freeL l th))).1, (roundsL l k (lessL th (freeL l th))).2)
theorem roundsL_same (l : List S64) : ∀ (k k' : Nat) (th : List Int), th.length < k → th.length < k' → roundsL l k th = roundsL l k' th
  | k + 1, k' + 1, th, h1, h2 => by
    rw [roundsL, roundsL]
    by_cases h : freeL l th = []
    · rw [if_pos h, if_pos h]
    · have := free_sub h
      rw [if_neg h, if_neg h, roundsL_same l k k' _ (by omega) (by omega)]
def roundsP (l : List S64) (th : List Int) : List (List Int) × List Int := roundsL l (th.length + 1) th
theorem roundsP_nil {l : List S64} {th : List Int} (h : freeL l th = []) : roundsP l th = ([], th) := by
  unfold roundsP
  rw [roundsL, if_pos h]
theorem roundsP_cons {l : List S64} {th : List Int} (h : freeL l th ≠ []) : roundsP l th = (freeL l th :: (roundsP l (lessL th (freeL l th))).1, (roundsP l (lessL th (freeL l th))).2) := by
  unfold roundsP
  rw [roundsL, if_neg h, roundsL_same l th.length ((lessL th (freeL l th)).length + 1) _ (free_sub h) (by omega)]
theorem rounds_l0 {l : List S64} (hl : l.length ≤ 1048576) (h8 : ∀ x ∈ l, InC x) : ∀ (k : Nat) (th : List Int) (acc : List (List Int)), 2 * th.length + 1 < k → acc.length + th.length ≤ 1048576 → impl_rounds.l0 k l th acc = some (acc ++ (roundsP l th).1, (roundsP l th).2)
  | 0, th, acc, hk, _ => by omega
  | k + 1, th, acc, hk, ha => by
    simp only [impl_rounds.l0]
    rw [implFree_is hl h8 (by omega)]
    simp only [Option.bind_some]
    by_cases h : freeL l th = []
    · rw [h, if_pos (by simp), roundsP_nil h, List.append_nil]
    · have hs := free_sub h
      have hfl := freeL_length l th
      have hpos := List.length_pos_iff.2 h
      rw [if_neg (by omega), if_pos (by omega), less_is th _ (by omega) (by omega) k (by omega)]
      simp only [Option.bind_some]
      rw [rounds_l0 hl h8 k _ _ (by omega) (by simp; omega), roundsP_cons h]
      simp
theorem rounds_is {l : List S64} (hl : l.length ≤ 1048576) (h8 : ∀ x ∈ l, InC x) (k : Nat) (th : List Int) (hk : 2 * th.length + 1 < k) (ht : th.length ≤ 1048576) : impl_rounds.f k l th = some (roundsP l th) := by
  unfold impl_rounds.f
  have := rounds_l0 hl h8 k th [] hk (by simp; omega)
  simpa using this
theorem locked_length (l : List S64) : ∀ (k : Nat) (th : List Int), (roundsL l k th).2.length ≤ th.length
  | 0, th => Nat.le_refl _
  | k + 1, th => by
    rw [roundsL]
    split
    · exact Nat.le_refl _
    · exact Nat.le_trans (locked_length l k _) (lessL_length _ _)

/-- What is locked of a set, as a set. -/
theorem lock_is {n : Int} {l : List S64} (h : okC n l = true) : ∀ (k a : Nat), a < 4096 → (listB (a : Int)).length < k → ∃ b : Nat, lockB (maskL l) k (a : Int) = some (b : Int) ∧ b < 4096 ∧ listB (b : Int) = (roundsP l (listB (a : Int))).2
  | 0, a, _, hk => by omega
  | k + 1, a, ha, hk => by
    obtain ⟨f, f1, f2, f3, f4⟩ := free_is h ha
    rw [lockB, f1]
    by_cases e : f = 0
    · subst e
      have hn : freeL l (listB (a : Int)) = [] := by rw [← f4]; decide
      exact ⟨a, by rw [if_pos (by omega)], ha, by rw [roundsP_nil hn]⟩
    · have hn : freeL l (listB (a : Int)) ≠ [] := fun g => e ((listB_nil f2).1 (f4.trans g))
      obtain ⟨c, c1, c2, c3⟩ := less_listB ha f2
      have hs := free_sub hn
      rw [if_neg (by omega), c1]
      rw [← f4] at hs
      obtain ⟨b, b1, b2, b3⟩ := lock_is h k c c2 (by rw [c3]; omega)
      refine ⟨b, b1, b2, ?_⟩
      rw [b3, roundsP_cons hn, c3, f4]
theorem locked_is {n : Int} {l : List S64} (h : okC n l = true) {a : Nat} (ha : a < 4096) (k : Nat) (hk : 12 < k) : ∃ b : Nat, spec_l03Locked.f k (maskL l) (a : Int) = some (b : Int) ∧ b < 4096 ∧ listB (b : Int) = (roundsP l (listB (a : Int))).2 := by
  unfold spec_l03Locked.f
  rw [if_pos (maskL_length l)]
  exact lock_is h k a ha (by have := listB_length (a : Int); omega)

theorem one_shl {i : Nat} (hi : i < 12) : IntKind.u16.wrap (2 ^ min (IntKind.u64.wrap (i : Int)).toNat 16) = ((2 ^ i : Nat) : Int) := by
  rw [wu64 (by omega), Int.toNat_natCast, Nat.min_eq_left (by omega)]
  exact bitN_is hi
theorem two_lt12 {i : Nat} (hi : i < 12) : 2 ^ i < 4096 := by
  have := Nat.pow_lt_pow_right (a := 2) (by omega) hi
  have h : (2 : Nat) ^ 12 = 4096 := by decide
  omega
theorem listB_two {i : Nat} (hi : i < 12) : listB ((2 ^ i : Nat) : Int) = [(i : Int)] := by
  refine lt_unique (listB_lt _) (by simp) (fun y => ?_)
  rw [listB_same (two_lt12 hi) y]
  simp only [Nat.testBit_two_pow, decide_eq_true_iff, List.mem_singleton]
  constructor
  · rintro ⟨j, rfl, rfl⟩; rfl
  · rintro rfl; exact ⟨i, rfl, rfl⟩
/-- A set without one of its own. -/
theorem less_one {a : Nat} (ha : a < 4096) {x : Int} (hx : x ∈ listB (a : Int)) : ∃ c : Nat, Go.bits .andNot .u16 (a : Int) (IntKind.u16.wrap (2 ^ min (IntKind.u64.wrap x).toNat 16)) = (c : Int) ∧ c < 4096 ∧ listB (c : Int) = lessL (listB (a : Int)) [x] := by
  obtain ⟨i, rfl, hi⟩ := (listB_same ha x).1 hx
  have h12 := bit_lt ha hi
  rw [one_shl h12]
  obtain ⟨c, h1, h2, h3⟩ := less_listB ha (two_lt12 h12)
  exact ⟨c, h1, h2, by rw [h3, listB_two h12]⟩

theorem bit_is {a k : Nat} (ha : a < 4096) : (Go.bits .and .u16 ((a : Int) / 2 ^ k) 1 = 1) ↔ a.testBit k = true := by
  have hlt : a / 2 ^ k < 65536 := Nat.lt_of_le_of_lt (Nat.div_le_self _ _) (by omega)
  have e : (a : Int) / 2 ^ k = ((a / 2 ^ k : Nat) : Int) := by norm_cast
  rw [e, bits_and1 hlt, Nat.testBit_eq_decide_div_mod_eq, decide_eq_true_iff]
  omega
theorem bit_no {a k : Nat} (ha : a < 4096) : (Go.bits .and .u16 ((a : Int) / 2 ^ k) 1 = 0) ↔ a.testBit k = false := by
  have hlt : a / 2 ^ k < 65536 := Nat.lt_of_le_of_lt (Nat.div_le_self _ _) (by omega)
  have e : (a : Int) / 2 ^ k = ((a / 2 ^ k : Nat) : Int) := by norm_cast
  rw [e, bits_and1 hlt, Nat.testBit_eq_decide_div_mod_eq, decide_eq_false_iff_not]
  omega

/-! The law's harness over a result that is a list of whole numbers. -/
theorem eqInt64S_l0 (l : List Int) (hl : l.length ≤ 1152921504606846976) : ∀ (rest : List Int) (p k : Nat), l.drop p = rest → rest.length < k → laws_eqInt64S.l0 k l l (p : Int) = some true := by
  intro rest
  induction rest with
  | nil =>
    intro p k hd hk
    obtain ⟨k, rfl⟩ : ∃ m, k = m + 1 := ⟨k - 1, by simp at hk; omega⟩
    have := of_drop_nil hd
    simp only [laws_eqInt64S.l0]
    rw [if_neg (by omega)]
  | cons x rest ih =>
    intro p k hd hk
    simp only [List.length_cons] at hk
    obtain ⟨k, rfl⟩ : ∃ m, k = m + 1 := ⟨k - 1, by omega⟩
    obtain ⟨hp, hd', hx⟩ := of_drop hd
    simp only [laws_eqInt64S.l0, if_true]
    rw [if_pos (by omega), if_pos (by omega), if_pos (by omega), step64 hp hl]
    exact ih (p + 1) k hd' (by omega)

theorem eqInt64S_is (l : List Int) (hl : l.length ≤ 1152921504606846976) (k : Nat) (hk : l.length < k) : laws_eqInt64S.f k l l = some true := by
  unfold laws_eqInt64S.f
  rw [if_pos rfl]
  exact eqInt64S_l0 l hl l 0 k rfl hk

/-- 1, 2, 3, .. in place of every number. -/
def marks : Int → Nat → List Int
  | _, 0 => []
  | a, n + 1 => a :: marks (a + 1) n

theorem marks_length : ∀ (n : Nat) (a : Int), (marks a n).length = n
  | 0, _ => rfl
  | n + 1, a => by simp [marks, marks_length n]

theorem markInt64S_l0 : ∀ (n p k : Nat) (l : List Int) (a : Int), l.length ≤ 1152921504606846976 → l.length = p + n → n < k → 0 ≤ a → a ≤ 2305843009213693952 + p →
    laws_markInt64S.l0 k l a (p : Int) = some (a + n, l.take p ++ marks a n)
  | 0, p, k, l, a, hl, hn, hk, h0, h1 => by
    obtain ⟨k, rfl⟩ : ∃ m, k = m + 1 := ⟨k - 1, by omega⟩
    simp only [laws_markInt64S.l0, marks]
    rw [if_neg (by omega), List.take_of_length_le (by omega)]
    simp
  | n + 1, p, k, l, a, hl, hn, hk, h0, h1 => by
    obtain ⟨k, rfl⟩ : ∃ m, k = m + 1 := ⟨k - 1, by omega⟩
    simp only [laws_markInt64S.l0]
    rw [if_pos (by omega), if_pos (by omega), w64_id (by omega), step64 (show p < l.length by omega) hl, Int.toNat_natCast,
      markInt64S_l0 n (p + 1) k (l.set p a) (a + 1) (by simpa using hl) (by simp; omega) (by omega) (by omega) (by omega), take_set_at _ _ _ (by omega)]
    simp only [marks, Option.some.injEq, Prod.mk.injEq, List.append_assoc, List.singleton_append, and_true]
    omega

theorem markInt64S_is (l : List Int) (hl : l.length ≤ 1152921504606846976) (k : Nat) (hk : l.length < k) : laws_markInt64S.f k l 1 = some (1 + (l.length : Int), marks 1 l.length) := by
  unfold laws_markInt64S.f
  exact (markInt64S_l0 l.length 0 k l 1 hl (by simp) hk (by omega) (by omega)).trans (by rw [List.take_zero, List.nil_append])

theorem heldInt64S_l0 (l : List Int) (hl : l.length ≤ 1152921504606846976) : ∀ (n p k : Nat) (a : Int), l.length = p + n → l.drop p = marks a n → n < k → 0 ≤ a → a ≤ 2305843009213693952 + p →
    laws_heldInt64S.l0 k l a (p : Int) = some (a + n)
  | 0, p, k, a, hn, hd, hk, h0, h1 => by
    obtain ⟨k, rfl⟩ : ∃ m, k = m + 1 := ⟨k - 1, by omega⟩
    simp only [laws_heldInt64S.l0]
    rw [if_neg (by omega)]
    simp
  | n + 1, p, k, a, hn, hd, hk, h0, h1 => by
    obtain ⟨k, rfl⟩ : ∃ m, k = m + 1 := ⟨k - 1, by omega⟩
    obtain ⟨hp, hd', hx⟩ := of_drop hd
    simp only [laws_heldInt64S.l0, rd, hx, if_true]
    rw [if_pos (by omega), if_pos (by omega), w64_id (by omega), step64 hp hl, heldInt64S_l0 l hl n (p + 1) k (a + 1) (by omega) hd' (by omega) (by omega) (by omega)]
    simp only [Option.some.injEq]
    omega

theorem heldInt64S_is (n : Nat) (hl : n ≤ 1152921504606846976) (k : Nat) (hk : n < k) : laws_heldInt64S.f k (marks 1 n) 1 = some (1 + (n : Int)) := by
  unfold laws_heldInt64S.f
  exact heldInt64S_l0 (marks 1 n) (by rw [marks_length]; exact hl) n 0 k 1 (by rw [marks_length]; simp) rfl hk (by omega) (by omega)

/-- The law, in plain Lean. -/
def FnExactGreedySlipped.Said : Prop := ∀ (a0 : Int) (l1 : List S66), (Lit.int .i64 a0).wf = true → l1.length ≤ maxLen → l1.length * 2 ≤ 140737488351232 → (∀ x ∈ l1, (Lit.int .i8 x.f0).wf = true ∧ (Lit.int .i8 x.f1).wf = true) → ∃ k, laws_FnExactGreedySlipped.f k a0 l1 = some true

/-- How many of a set lie under a chain. -/
def hitP (lk : List Int) (c : Int) (x : S64) : Bool := x.f0 == c && lk.contains x.f1
def cntP (l : List S64) (lk : List Int) (c : Int) : Int := ((l.filter (hitP lk c)).length : Int)
/-- The first with the most. -/
def pickS (l : List S64) (lk : List Int) : Int × Int → List Int → Int × Int
  | st, [] => st
  | st, c :: r => pickS l lk (if cntP l lk c > st.2 then (c, cntP l lk c) else st) r
theorem pickS_append (l : List S64) (lk : List Int) : ∀ (a b : List Int) (st : Int × Int), pickS l lk st (a ++ b) = pickS l lk (pickS l lk st a) b
  | [], b, st => rfl
  | c :: a, b, st => by
    simp only [List.cons_append, pickS]
    exact pickS_append l lk a b _
theorem pickS_mem (l : List S64) (lk : List Int) : ∀ (a : List Int) (st : Int × Int), pickS l lk st a = st ∨ (pickS l lk st a).1 ∈ a
  | [], st => .inl rfl
  | c :: a, st => by
    simp only [pickS]
    by_cases h : cntP l lk c > st.2
    · rw [if_pos h]
      rcases pickS_mem l lk a (c, cntP l lk c) with g | g
      · rw [g]; exact .inr List.mem_cons_self
      · exact .inr (List.mem_cons_of_mem _ g)
    · rw [if_neg h]
      rcases pickS_mem l lk a st with g | g
      · exact .inl g
      · exact .inr (List.mem_cons_of_mem _ g)
theorem cntP_nonneg (l : List S64) (lk : List Int) (c : Int) : 0 ≤ cntP l lk c := by unfold cntP; omega
def bestP (l : List S64) (lk : List Int) : Int := (pickS l lk (-1, -1) lk).1
theorem bestP_mem (l : List S64) {lk : List Int} (h : lk ≠ []) : bestP l lk ∈ lk := by
  obtain ⟨c, r, rfl⟩ := List.exists_cons_of_ne_nil h
  unfold bestP
  rw [pickS]
  have := cntP_nonneg l (c :: r) c
  rw [if_pos (show cntP l (c :: r) c > -1 by omega)]
  rcases pickS_mem l (c :: r) r (c, cntP l (c :: r) c) with g | g
  · rw [g]; exact List.mem_cons_self
  · exact List.mem_cons_of_mem _ g
theorem locked_sub (l : List S64) : ∀ (k : Nat) (th : List Int), ∀ x ∈ (roundsL l k th).2, x ∈ th
  | 0, th, x, h => h
  | k + 1, th, x, h => by
    rw [roundsL] at h
    split at h
    · exact h
    · exact (lessL_mem.1 (locked_sub l k _ x h)).1
def greedyP (l : List S64) : Nat → List Int → List Int → List Int
  | 0, _, o => o
  | d + 1, th, o => if (roundsP l th).2 = [] then o else greedyP l d (lessL th [bestP l (roundsP l th).2]) (o ++ [bestP l (roundsP l th).2])
theorem greedy_short {l : List S64} {th : List Int} (h : (roundsP l th).2 ≠ []) : (lessL th [bestP l (roundsP l th).2]).length < th.length :=
  lessL_short (locked_sub l _ th _ (bestP_mem l h)) List.mem_cons_self
theorem greedyP_length (l : List S64) : ∀ (d : Nat) (th o : List Int), (greedyP l d th o).length ≤ o.length + d
  | 0, th, o => by simp [greedyP]
  | d + 1, th, o => by
    rw [greedyP]
    split
    · omega
    · have := greedyP_length l d (lessL th [bestP l (roundsP l th).2]) (o ++ [bestP l (roundsP l th).2])
      rw [List.length_append, List.length_singleton] at this
      omega
theorem lessL_snoc (th o : List Int) (x : Int) : lessL th (o ++ [x]) = lessL (lessL th o) [x] := by
  unfold lessL
  rw [List.filter_filter]
  refine List.filter_congr fun y _ => ?_
  rw [Bool.eq_iff_iff]
  simp [and_comm]
theorem greedy_l2 (l : List S64) (hl : l.length ≤ 1000) (h8 : ∀ x ∈ l, InC x) (n : Int) (out lk : List Int) (hlk : lk.length ≤ 1000) (b m c : Int) (i : Nat) (hi : i ≤ 1000) : ∀ (rest : List S64) (p k : Nat) (cc : Int), l.drop p = rest → rest.length + lk.length + 1 < k → 0 ≤ cc → cc + rest.length ≤ 1000000 →
    impl_GreedySlipped.l2 k n l out lk b m c cc lk (lk.length : Int) (i : Int) l (l.length : Int) (p : Int) = (if cc + cntP rest lk c > m then impl_GreedySlipped.l1 (k - rest.length - 1) n l out lk c (cc + cntP rest lk c) lk (lk.length : Int) ((i + 1 : Nat) : Int) else impl_GreedySlipped.l1 (k - rest.length - 1) n l out lk b m lk (lk.length : Int) ((i + 1 : Nat) : Int)) := by
  intro rest
  induction rest with
  | nil =>
    intro p k cc hd hk h0 h1
    obtain ⟨k, rfl⟩ : ∃ m, k = m + 1 := ⟨k - 1, by omega⟩
    have := of_drop_nil hd
    have hz : cntP ([] : List S64) lk c = 0 := rfl
    simp only [impl_GreedySlipped.l2]
    rw [if_neg (by omega), step64 (show i < 1001 by omega) (by omega), hz, Int.add_zero]
    rfl
  | cons y rest ih =>
    intro p k cc hd hk h0 h1
    simp only [List.length_cons] at hk h1 ⊢
    obtain ⟨k, rfl⟩ : ∃ m, k = m + 1 := ⟨k - 1, by omega⟩
    obtain ⟨hp, hd', hx⟩ := of_drop hd
    have hin := h8 y (List.mem_of_mem_drop (by rw [hd]; exact List.mem_cons_self))
    have i0 := hin.1
    have i1 := hin.2
    have e : k + 1 - (rest.length + 1) - 1 = k - rest.length - 1 := by omega
    simp only [impl_GreedySlipped.l2, rd_T64, hx]
    rw [if_pos (by omega), if_pos (by omega), if_pos (by omega), w64_id (a := y.f0) (by omega), w64_id (a := y.f1) (by omega), step64 hp (by omega), e]
    have hcons : cntP (y :: rest) lk c = (if hitP lk c y = true then 1 else 0) + cntP rest lk c := by
      unfold cntP
      rw [List.filter_cons]
      split
      · rw [List.length_cons]; omega
      · omega
    by_cases e0 : y.f0 = c
    · rw [if_pos e0, contains64_k lk y.f1 (by omega) k (by omega), w64_id (a := cc + 1) (by omega)]
      simp only [Option.bind_some]
      cases e1 : lk.contains y.f1 with
      | true =>
        have hh : hitP lk c y = true := by unfold hitP; rw [e1, beq_iff_eq.2 e0]; rfl
        rw [hh, if_pos rfl] at hcons
        rw [if_pos rfl, hcons, ih (p + 1) k (cc + 1) hd' (by omega) (by omega) (by omega), Int.add_assoc]
      | false =>
        have hh : hitP lk c y = false := by unfold hitP; rw [e1, Bool.and_false]
        rw [hh, if_neg (by decide), Int.zero_add] at hcons
        rw [if_neg (by decide), hcons, ih (p + 1) k cc hd' (by omega) (by omega) (by omega)]
    · have hh : hitP lk c y = false := by unfold hitP; rw [beq_eq_false_iff_ne.2 e0, Bool.false_and]
      rw [hh, if_neg (by decide), Int.zero_add] at hcons
      rw [if_neg e0, hcons, ih (p + 1) k cc hd' (by omega) (by omega) (by omega)]
theorem greedy_l1 (l : List S64) (hl : l.length ≤ 1000) (h8 : ∀ x ∈ l, InC x) (n : Int) (out lk : List Int) (ho : out.length ≤ 1000) (hlk : lk.length ≤ 1000) : ∀ (rest : List Int) (i k : Nat) (st : Int × Int), lk.drop i = rest → rest.length * (l.length + 2) + l.length + lk.length + 3 < k →
    impl_GreedySlipped.l1 k n l out lk st.1 st.2 lk (lk.length : Int) (i : Int) = impl_GreedySlipped.l0 (k - rest.length * (l.length + 2) - 1) n l (out ++ [(pickS l lk st rest).1]) := by
  intro rest
  induction rest with
  | nil =>
    intro i k st hd hk
    obtain ⟨k, rfl⟩ : ∃ m, k = m + 1 := ⟨k - 1, by omega⟩
    have := of_drop_nil hd
    simp only [impl_GreedySlipped.l1, pickS]
    rw [if_neg (by omega), if_pos (by omega)]
    simp
  | cons c rest ih =>
    intro i k st hd hk
    simp only [List.length_cons, Nat.succ_mul] at hk ⊢
    generalize hZ : rest.length * (l.length + 2) = Z at hk ih ⊢
    obtain ⟨k, rfl⟩ : ∃ m, k = m + 1 := ⟨k - 1, by omega⟩
    obtain ⟨hp, hd', hx⟩ := of_drop hd
    simp only [impl_GreedySlipped.l1, rd, hx, pickS]
    rw [if_pos (by omega), if_pos (by omega), if_pos (by omega)]
    have e := greedy_l2 l hl h8 n out lk hlk st.1 st.2 c i (by omega) l 0 k 0 rfl (by omega) (by omega) (by omega)
    have e' : impl_GreedySlipped.l2 k n l out lk st.1 st.2 c 0 lk (lk.length : Int) (i : Int) l (l.length : Int) 0 = _ := e
    rw [e', Int.zero_add]
    by_cases h : cntP l lk c > st.2
    · rw [if_pos h, if_pos h]
      have I := ih (i + 1) (k - l.length - 1) (c, cntP l lk c) hd' (by omega)
      rw [show k - l.length - 1 - Z - 1 = k + 1 - (Z + (l.length + 2)) - 1 by omega] at I
      exact I
    · rw [if_neg h, if_neg h]
      have I := ih (i + 1) (k - l.length - 1) st hd' (by omega)
      rw [show k - l.length - 1 - Z - 1 = k + 1 - (Z + (l.length + 2)) - 1 by omega] at I
      exact I
theorem greedy_l0 (l : List S64) (hl : l.length ≤ 60) (h8 : ∀ x ∈ l, InC x) (n : Nat) (hn : n ≤ 12) : ∀ (d k : Nat) (out : List Int), (lessL (cntI n) out).length < d → 1000 * d + 1000 < k → out.length + (lessL (cntI n) out).length ≤ 100 →
    impl_GreedySlipped.l0 k (n : Int) l out = some (greedyP l d (lessL (cntI n) out) out, 0) := by
  intro d
  induction d with
  | zero => intro k out hd; omega
  | succ d ih =>
    intro k out hd hk ho
    obtain ⟨k, rfl⟩ : ∃ m, k = m + 1 := ⟨k - 1, by omega⟩
    have hk0 : ∀ Z k', Z ≤ 744 → k - Z - 1 = k' → 1000 * d + 1000 < k' := fun Z k' h1 h2 => by omega
    have hcl := cntI_length n
    have hll := lessL_length (cntI n) out
    have hrl := locked_length l ((lessL (cntI n) out).length + 1) (lessL (cntI n) out)
    have hrl' : (roundsP l (lessL (cntI n) out)).2.length ≤ (lessL (cntI n) out).length := hrl
    simp only [impl_GreedySlipped.l0]
    rw [counting_is n (by omega) k (by omega)]
    simp only [Option.bind_some]
    rw [less_is _ _ (by omega) (by omega) k (by omega)]
    simp only [Option.bind_some]
    rw [rounds_is (by omega) h8 k _ (by omega) (by omega)]
    simp only [Option.bind_some]
    rw [greedyP]
    by_cases c : (roundsP l (lessL (cntI n) out)).2 = []
    · rw [if_pos (by rw [c]; rfl), if_pos c]
    · have hp := List.length_pos_iff.2 c
      have hs := greedy_short c
      rw [if_neg (by omega), if_neg c]
      have hZ : (roundsP l (lessL (cntI n) out)).2.length * (l.length + 2) ≤ 744 := Nat.le_trans (Nat.mul_le_mul (show _ ≤ 12 by omega) (show _ ≤ 62 by omega)) (by decide)
      have e := greedy_l1 l (by omega) h8 (n : Int) out (roundsP l (lessL (cntI n) out)).2 (by omega) (by omega) _ 0 k (-1, -1) rfl (by rw [List.drop_zero]; omega)
      rw [List.drop_zero] at e
      have e' : impl_GreedySlipped.l1 k (n : Int) l out (roundsP l (lessL (cntI n) out)).2 (-1) (-1) (roundsP l (lessL (cntI n) out)).2 ((roundsP l (lessL (cntI n) out)).2.length : Int) 0 = _ := e
      rw [e', show (pickS l (roundsP l (lessL (cntI n) out)).2 (-1, -1) (roundsP l (lessL (cntI n) out)).2).1 = bestP l (roundsP l (lessL (cntI n) out)).2 from rfl, ← lessL_snoc]
      rw [← lessL_snoc] at hs
      generalize (roundsP l (lessL (cntI n) out)).2.length * (l.length + 2) = Z at hZ ⊢
      generalize hK : k - Z - 1 = k'
      generalize hX : bestP l (roundsP l (lessL (cntI n) out)).2 = x at hs ⊢
      have hk' : 1000 * d + 1000 < k' := hk0 _ _ hZ hK
      have hlen : (out ++ [x]).length = out.length + 1 := by simp
      exact ih k' (out ++ [x]) (by omega) hk' (by omega)
theorem best_same {n : Int} {l : List S64} (h : okC n l = true) {b : Nat} (hb : b < 4096) : ∀ x : Nat, x ≤ 12 → (pickS l (listB (b : Int)) (-1, -1) ((cntI x).filter (bitI (b : Int))) = (-1, -1) ∧ bestM l (b : Int) x = (-1, 0)) ∨ (pickS l (listB (b : Int)) (-1, -1) ((cntI x).filter (bitI (b : Int))) = bestM l (b : Int) x ∧ 0 ≤ (bestM l (b : Int) x).1 ∧ 0 ≤ (bestM l (b : Int) x).2)
  | 0, _ => .inl ⟨rfl, rfl⟩
  | x + 1, hx => by
    have ih := best_same h hb x (by omega)
    have hc : cntI (x + 1) = cntI x ++ [(x : Int)] := by simp [cntI, List.range_succ]
    have hbt := bitI_is (show b < 65536 by omega) (show x < 12 by omega)
    rw [hc, List.filter_append, pickS_append]
    cases ht : b.testBit x with
    | false =>
      rw [ht] at hbt
      have hf : [(x : Int)].filter (bitI (b : Int)) = [] := by rw [List.filter_cons, if_neg (by rw [hbt]; simp)]; rfl
      rw [hf]
      simp only [pickS, bestM]
      rw [if_pos ((bit_no hb).2 ht)]
      exact ih
    | true =>
      rw [ht] at hbt
      have hf : [(x : Int)].filter (bitI (b : Int)) = [(x : Int)] := by rw [List.filter_cons, if_pos hbt]; rfl
      have hcnt : cntM l (b : Int) (x : Int) = cntP l (listB (b : Int)) (x : Int) := by
        unfold cntM cntP
        congr 2
        refine List.filter_congr fun y hy => ?_
        have := in12 h y hy
        obtain ⟨v, hv⟩ : ∃ v : Nat, y.f1 = (v : Int) := ⟨y.f1.toNat, by omega⟩
        unfold hitB hitP
        congr 1
        rw [Bool.eq_iff_iff, beq_iff_eq, hv, Int.toNat_natCast, bit_is hb, List.contains_iff_mem, listB_same hb]
        constructor
        · exact fun g => ⟨v, rfl, g⟩
        · rintro ⟨i, e, g⟩
          rw [show v = i by omega]
          exact g
      have hnn := cntP_nonneg l (listB (b : Int)) (x : Int)
      have hne : ¬ Go.bits .and .u16 ((b : Int) / 2 ^ x) 1 = 0 := fun g => by rw [(bit_no hb).1 g] at ht; cases ht
      have hbm : bestM l (b : Int) (x + 1) = if (bestM l (b : Int) x).1 < 0 ∨ cntP l (listB (b : Int)) (x : Int) > (bestM l (b : Int) x).2 then ((x : Int), cntP l (listB (b : Int)) (x : Int)) else bestM l (b : Int) x := by
        rw [bestM, if_neg hne, hcnt]
      rw [hf, hbm]
      simp only [pickS]
      right
      rcases ih with ⟨g1, g2⟩ | ⟨g1, g2, g3⟩
      · rw [g1, g2, if_pos (show cntP l (listB (b : Int)) (x : Int) > -1 by omega), if_pos (.inl (show (-1 : Int) < 0 by omega))]
        exact ⟨rfl, by simp, hnn⟩
      · rw [g1]
        by_cases hm : cntP l (listB (b : Int)) (x : Int) > (bestM l (b : Int) x).2
        · rw [if_pos hm, if_pos (.inr hm)]
          exact ⟨rfl, by simp, hnn⟩
        · rw [if_neg hm, if_neg (fun g => by rcases g with g | g; omega; exact hm g)]
          exact ⟨rfl, g2, g3⟩
theorem best_is {n : Nat} {l : List S64} (h : okC (n : Int) l = true) {b : Nat} (hb : b < 4096) (hlt : ∀ y ∈ listB (b : Int), y < n) (hne : listB (b : Int) ≠ []) : (bestM l (b : Int) n).1 = bestP l (listB (b : Int)) := by
  obtain ⟨h1, h2, _⟩ := okC_ok h
  have hf : (cntI n).filter (bitI (b : Int)) = listB (b : Int) := by
    refine lt_unique ((cntI_lt n).sublist List.filter_sublist) (listB_lt _) (fun y => ?_)
    rw [List.mem_filter, cntI_mem]
    constructor
    · rintro ⟨g1, g2⟩
      unfold listB
      exact List.mem_filter.2 ⟨cntI_mem.2 ⟨g1.1, by omega⟩, g2⟩
    · intro g
      have g' := g
      unfold listB at g'
      obtain ⟨g1, g2⟩ := List.mem_filter.1 g'
      exact ⟨⟨(cntI_mem.1 g1).1, hlt y g⟩, g2⟩
  have := best_same h hb n (by omega)
  rw [hf] at this
  rcases this with ⟨g1, g2⟩ | ⟨g1, g2, g3⟩
  · have hm := bestP_mem l hne
    unfold bestP at hm
    rw [g1] at hm
    obtain ⟨i, e, _⟩ := (listB_same hb _).1 hm
    simp only at e
    omega
  · unfold bestP
    rw [g1]
theorem specGreedy_M {n : Nat} {l : List S64} (h : okC (n : Int) l = true) : ∀ (d a : Nat) (o : List Int) (k : Nat), a < 4096 → (∀ y ∈ listB (a : Int), y < n) → (listB (a : Int)).length < d → d < k → o.length + (listB (a : Int)).length ≤ 1000 → greedM l n k (a : Int) o = some (greedyP l d (listB (a : Int)) o, 0)
  | 0, a, o, k, _, _, hd, _, _ => by omega
  | d + 1, a, o, k, ha, hlt, hd, hk, ho => by
    obtain ⟨h1, h2, _⟩ := okC_ok h
    obtain ⟨k, rfl⟩ : ∃ m, k = m + 1 := ⟨k - 1, by omega⟩
    rw [greedM, greedyP]
    obtain ⟨u, e1, e2, e3⟩ := locked_is h ha 20 (by omega)
    rw [e1]
    simp only [Option.bind_some]
    rw [← e3]
    by_cases c : u = 0
    · rw [if_pos (by omega), if_pos ((listB_nil e2).2 c)]
    · have hne : listB (u : Int) ≠ [] := fun g => c ((listB_nil e2).1 g)
      have hsub : ∀ y ∈ listB (u : Int), y ∈ listB (a : Int) := fun y hy => by
        rw [e3] at hy
        exact locked_sub l _ _ y hy
      have hb := best_is h e2 (fun y hy => hlt y (hsub y hy)) hne
      have hm := bestP_mem l hne
      obtain ⟨i, hi, hbit⟩ := (listB_same e2 _).1 hm
      have hi12 := bit_lt e2 hbit
      rw [if_neg (by omega), if_neg hne, hb, hi, if_pos ⟨by omega, by omega, by omega⟩, Int.toNat_natCast]
      obtain ⟨c2, g1, g2, g3⟩ := less_one ha (hsub _ hm)
      rw [hi, one_shl hi12] at g1
      have hN := bitN_is hi12
      unfold bitN at hN
      rw [hN, g1]
      have hs := greedy_short (l := l) (th := listB (a : Int)) (by rw [← e3]; exact hne)
      rw [← e3, ← g3] at hs
      rw [hi] at g3
      rw [← g3]
      exact specGreedy_M h d c2 (o ++ [(i : Int)]) k g2 (fun y hy => by rw [g3] at hy; exact hlt y (lessL_mem.1 hy).1) (by omega) (by omega) (by rw [List.length_append, List.length_singleton]; omega)
/-- What both answer. -/
def greedyR (n : Int) (l : List S64) : List Int × Int := if askC n l true = 0 then (greedyP l (n.toNat + 1) (cntI n.toNat) [], 0) else ([], askC n l true)
theorem greedyR_length (n : Int) (l : List S64) : (greedyR n l).1.length ≤ 13 := by
  unfold greedyR
  split
  · rename_i h
    obtain ⟨h1, h2, _⟩ := okC_ok (askC_0 h).1
    have := greedyP_length l (n.toNat + 1) (cntI n.toNat) []
    rw [List.length_nil] at this
    show (greedyP l (n.toNat + 1) (cntI n.toNat) []).length ≤ 13
    omega
  · simp
theorem lessL_nil (th : List Int) : lessL th [] = th := by
  unfold lessL
  exact List.filter_eq_self.2 (fun y _ => by simp)
theorem implGreedyC_is (n : Int) (l : List S64) (hl : l.length ≤ 1048576) (h8 : ∀ x ∈ l, InC x) (k : Nat) (hk : 2 * l.length + 20000 < k) : impl_GreedySlipped.f k n l = some (greedyR n l) := by
  unfold impl_GreedySlipped.f greedyR
  rw [chainCode_is n l [] (by simp) hl h8 k (by simp; omega), decide_eq_true (show ∀ c ∈ ([] : List Int), 0 ≤ c ∧ c < n by simp)]
  simp only [Option.bind_some]
  split
  · rename_i h
    obtain ⟨h1, h2, h3, _⟩ := okC_ok (askC_0 h).1
    have hz := lessL_nil (cntI n.toNat)
    have e := greedy_l0 l h3 h8 n.toNat (by omega) (n.toNat + 1) k [] (by rw [hz, cntI_length]; omega) (by omega) (by rw [hz, cntI_length]; simp; omega)
    rw [hz, show ((n.toNat : Nat) : Int) = n by omega] at e
    exact e
  · rfl
theorem specGreedyC_is (n : Int) (l : List S64) (hl : l.length ≤ 1048576) (h8 : ∀ x ∈ l, InC x) (k : Nat) (hk : l.length * (l.length + 4) + 20 < k) : spec_GreedySlipped.f k n l = some (greedyR n l) := by
  unfold spec_GreedySlipped.f greedyR
  rw [asked_is n l true hl h8 k (by omega)]
  simp only [Option.bind_some]
  split
  · rename_i h
    have ho := (askC_0 h).1
    obtain ⟨h1, h2, _⟩ := okC_ok ho
    rw [if_pos ⟨⟨hl, in12 ho⟩, h1, h2⟩, all_is ⟨h1, h2⟩]
    simp only [Option.bind_some]
    have hc := cntI_listB (show n.toNat ≤ 12 by omega)
    have hlen := cntI_length n.toNat
    have hmem : ∀ y ∈ cntI n.toNat, y < (n.toNat : Int) := fun y hy => (cntI_mem.1 hy).2
    rw [hc] at hlen hmem ⊢
    exact specGreedy_M (n := n.toNat) (by rw [show ((n.toNat : Nat) : Int) = n by omega]; exact ho) (n.toNat + 1) _ [] k (all_lt (by omega)) hmem (by omega) (by omega) (by simp; omega)
  · rfl
theorem FnExactGreedySlipped : FnExactGreedySlipped.Said := by
  intro n l hn hm hy hok
  have hl : l.length ≤ 93824992236885 := by omega
  have hlm : (l.map cvC).length = l.length := List.length_map ..
  have h8 : ∀ x ∈ l.map cvC, InC x := by
    intro x hx
    obtain ⟨y, hy, rfl⟩ := List.mem_map.1 hx
    exact ⟨i8_in (hok y hy).1, i8_in (hok y hy).2⟩
  obtain ⟨Z, hZ⟩ : ∃ Z, Z = l.length * (l.length + 4) := ⟨_, rfl⟩
  refine ⟨Z + 3 * l.length + 21000, ?_⟩
  unfold laws_FnExactGreedySlipped.f
  rw [szCoverS_is l _ hl (by omega) (by omega)]
  simp only [Option.bind_some]
  by_cases big : (1048576 : Int) < l.length
  · rw [if_pos big]; rfl
  · rw [if_neg big, if_neg (by omega), toCoverS_is l hl _ (by omega)]
    simp only [Option.bind_some]
    have hr := greedyR_length n (l.map cvC)
    generalize hR : greedyR n (l.map cvC) = R at hr
    rw [specGreedyC_is n _ (by omega) h8 _ (by rw [hlm, ← hZ]; omega), implGreedyC_is n _ (by omega) h8 _ (by omega), hR]
    simp only [Option.bind_some]
    rw [eqInt64S_is _ (by omega) _ (by omega)]
    simp only [Option.bind_some, if_true, bne_self_eq_false, laws_FnExactGreedySlipped.j0, Bool.false_eq_true, if_false]
    rw [toCoverS_is l hl _ (by omega)]
    simp only [Option.bind_some]
    rw [eqCoverS_is _ (by omega) _ (by omega)]
    simp only [Option.bind_some, if_true]
    obtain ⟨ys, e⟩ := markCoverS_is (l.map cvC) 1 (by omega) (by omega) (by omega) (Z + 3 * l.length + 20999) (by omega)
    rw [e]
    simp only [Option.bind_some]
    rw [if_neg (by omega), eqInt64S_is _ (by omega) _ (by omega)]
    simp only [Option.bind_some, if_true, laws_FnExactGreedySlipped.j1, Bool.false_eq_true, if_false]
    rw [markInt64S_is _ (by omega) _ (by omega)]
    simp only [Option.bind_some]
    rw [heldInt64S_is _ (by omega) _ (by omega)]
    simp only [Option.bind_some, if_true]
    rw [if_neg (by omega), toCoverS_is l hl _ (by omega)]
    simp only [Option.bind_some]
    rw [implGreedyC_is n _ (by omega) h8 _ (by omega), hR]
    simp only [Option.bind_some]
    rw [eqInt64S_is _ (by omega) _ (by omega)]
    simp only [Option.bind_some, if_true, bne_self_eq_false, laws_FnExactGreedySlipped.j2, Bool.false_eq_true, if_false]
    rw [heldInt64S_is _ (by omega) _ (by omega)]
    simp only [Option.bind_some, if_true]
    rw [if_neg (by omega)]

end Go.Proofs.Ytjcdgimldhodiaa.Pure
