/- Printed by this session's plus.py out of the translation, some functions' texts being this session's own. -/
import Derived.Test.YtjcdgimldhodiaaPFnExactFewestSlippedx0
import Derived.Test.YtjcdgimldhodiaaPFnExactFewestSlippedx4
import Derived.Test.YtjcdgimldhodiaaPFnExactFewestSlippedx5
import Derived.Test.YtjcdgimldhodiaaPFnExactFewestSlippedx7
import Derived.Test.YtjcdgimldhodiaaPFnExactFewestSlippedx8
namespace Go.Proofs.Ytjcdgimldhodiaa.PFnExactFewestSlipped
open Go.RowKit Go.Proofs.YtjcdgimldhodiaaW.PrintWords Go.Proofs.YtjcdgimldhodiaaW.PrintLast Go.Proofs.YtjcdgimldhodiaaW.PrintMore
attribute [local go_sem] max2_int min2_int max_two min_two max_three min_three max_four min_four   -- for this text's walks alone
set_option linter.unusedVariables false
set_option linter.unusedSimpArgs false

/-! ### impl_FewestSlipped: function 50: this session's own text -/
theorem counting_l0 (n : Nat) (hn : n ≤ 1048576) : ∀ (m i k : Nat), i + m = n → m < k → impl_counting.l0 k (cntI i) (n : Int) (i : Int) = some (cntI n) := by
  intro m
  induction m with
  | zero =>
    intro i k hi hk
    obtain ⟨k, rfl⟩ : ∃ m, k = m + 1 := ⟨k - 1, by omega⟩
    simp only [impl_counting.l0]
    rw [if_neg (by omega), show i = n by omega]
  | succ m ih =>
    intro i k hi hk
    obtain ⟨k, rfl⟩ : ∃ m, k = m + 1 := ⟨k - 1, by omega⟩
    have hc : cntI i ++ [(i : Int)] = cntI (i + 1) := by simp [cntI, List.range_succ]
    simp only [impl_counting.l0]
    rw [if_pos (by omega), if_pos (by rw [cntI_length]; omega), step64 (show i < n by omega) (by omega), hc, ih (i + 1) k (by omega) (by omega)]
theorem counting_is (n : Nat) (hn : n ≤ 1048576) (k : Nat) (hk : n < k) : impl_counting.f k (n : Int) = some (cntI n) := by
  unfold impl_counting.f
  exact counting_l0 n hn n 0 k (by omega) hk

theorem listB_mem {a : Nat} (ha : a < 65536) {y : Int} : y ∈ listB (a : Int) ↔ ∃ i : Nat, i < 12 ∧ y = (i : Int) ∧ a.testBit i = true := by
  unfold listB
  rw [List.mem_filter, cntI_mem]
  constructor
  · rintro ⟨h1, h2⟩
    obtain ⟨i, rfl⟩ : ∃ i : Nat, y = (i : Int) := ⟨y.toNat, by omega⟩
    exact ⟨i, by omega, rfl, by rw [← bitI_is ha (by omega)]; exact h2⟩
  · rintro ⟨i, h1, rfl, h2⟩
    exact ⟨by omega, by rw [bitI_is ha h1]; exact h2⟩
theorem listB_lt (z : Int) : (listB z).Pairwise (fun a b => a < b) := (cntI_lt 12).sublist List.filter_sublist
theorem listB_length (z : Int) : (listB z).length ≤ 12 := Nat.le_trans (List.length_filter_le _ _) (by rw [cntI_length]; omega)
theorem in12 {n : Int} {l : List S64} (h : okC n l = true) : ∀ x ∈ l, (0 ≤ x.f0 ∧ x.f0 < 12) ∧ (0 ≤ x.f1 ∧ x.f1 < 12) := fun x hx => by
  obtain ⟨h1, h2, _, h4, _⟩ := okC_ok h
  have := h4 x hx
  omega
theorem listB_cover {n : Int} {l : List S64} (h : okC n l = true) {c : Int} (hc : 0 ≤ c ∧ c < n) : listB (rd (maskL l) c) = sort64 (coverF l c) := by
  obtain ⟨h1, h2, _, h4, h5⟩ := okC_ok h
  obtain ⟨u, rfl⟩ : ∃ u : Nat, c = (u : Int) := ⟨c.toNat, by omega⟩
  obtain ⟨a, ha, hlt, hb⟩ := (says_all l (in12 h)).2 u (by omega)
  refine sort_unique (listB_lt _) (coverF_nodup h5 _) (fun y => ?_)
  rw [ha, listB_mem hlt, coverF_mem]
  constructor
  · rintro ⟨i, hi, rfl, ht⟩
    exact (hb i hi).1 ht
  · rintro ⟨x, hx, g1, g2⟩
    have := (in12 h) x hx
    refine ⟨y.toNat, by omega, by omega, (hb y.toNat (by omega)).2 ⟨x, hx, g1, by omega⟩⟩

theorem bits_and {a b : Nat} (ha : a < 65536) (hb : b < 65536) : Go.bits .and .u16 (a : Int) (b : Int) = ((a &&& b : Nat) : Int) := by
  have hab : a &&& b < 65536 := Nat.lt_of_le_of_lt Nat.and_le_left ha
  have : Go.bits .and .u16 (a : Int) (b : Int) = IntKind.u16.wrap (((BitVec.ofInt 16 (a : Int) &&& BitVec.ofInt 16 (b : Int)).toNat : Nat) : Int) := rfl
  rw [this, BitVec.toNat_and]
  have e : ∀ x : Nat, x < 65536 → (BitVec.ofInt 16 (x : Int)).toNat = x := fun x hx => by
    rw [BitVec.toNat_ofInt]
    omega
  rw [e a ha, e b hb, wu16 hab]
theorem and_zero (a b : Nat) : a &&& b = 0 ↔ ∀ i, ¬ (a.testBit i = true ∧ b.testBit i = true) := by
  constructor
  · intro h i g
    have : (a &&& b).testBit i = true := by rw [Nat.testBit_and, g.1, g.2]; rfl
    rw [h, Nat.zero_testBit] at this
    cases this
  · intro h
    apply Nat.eq_of_testBit_eq
    intro i
    rw [Nat.zero_testBit, Nat.testBit_and]
    cases h1 : a.testBit i with
    | false => rfl
    | true =>
      cases h2 : b.testBit i with
      | false => rfl
      | true => exact absurd ⟨h1, h2⟩ (h i)
theorem bit_lt {a i : Nat} (ha : a < 4096) (h : a.testBit i = true) : i < 12 := by
  rcases Nat.lt_or_ge i 12 with g | g
  · exact g
  · rw [Nat.testBit_lt_two_pow (Nat.lt_of_lt_of_le ha (Nat.pow_le_pow_right (by omega) g : 2 ^ 12 ≤ 2 ^ i))] at h
    cases h
theorem lt_of_bits {a : Nat} (h : ∀ i, a.testBit i = true → i < 12) : a < 4096 := by
  have : a < 2 ^ 12 := Nat.lt_pow_two_of_testBit a (fun i hi => by
    cases g : a.testBit i with
    | false => rfl
    | true => have := h i g; omega)
  exact this
theorem two_lt {x : Nat} (hx : x < 12) : 2 ^ x < 65536 := Nat.lt_of_lt_of_le (Nat.pow_lt_pow_right (by omega) (show x < 16 by omega)) (by decide)
/-- A list has those numbers whose bits are set. -/
def Same (th : List Int) (a : Nat) : Prop := ∀ y : Int, y ∈ th ↔ ∃ i : Nat, y = (i : Int) ∧ a.testBit i = true
theorem mem_sort64 {l : List Int} {y : Int} : y ∈ sort64 l ↔ y ∈ l := (List.mergeSort_perm ..).mem_iff
theorem any_false {th ys : List Int} : anyIn th ys = false ↔ ∀ o ∈ ys, o ∉ th := by
  unfold anyIn
  rw [List.any_eq_false]
  constructor
  · intro h o ho g
    exact h o ho (by simpa using g)
  · intro h o ho g
    exact h o ho (by simpa using g)
theorem over_any {n : Int} {l : List S64} (h : okC n l = true) {a : Nat} (ha : a < 4096) {th : List Int} (ht : Same th a) {c : Nat} (hc : c < 12) : Go.bits .and .u16 (rd (maskL l) (c : Int)) a = 0 ↔ anyIn th (sort64 (coverF l c)) = false := by
  obtain ⟨v, hv, hlt, hb⟩ := (says_all l (in12 h)).2 c hc
  rw [hv, bits_and hlt (by omega), any_false]
  constructor
  · intro g o ho hm
    have g' : v &&& a = 0 := by omega
    obtain ⟨x, hx, e1, e2⟩ := coverF_mem.1 (mem_sort64.1 ho)
    obtain ⟨i, hi, ht'⟩ := (ht o).1 hm
    exact (and_zero _ _).1 g' i ⟨(hb i (bit_lt ha ht')).2 ⟨x, hx, e1, by rw [e2, hi]⟩, ht'⟩
  · intro g
    have : v &&& a = 0 := (and_zero _ _).2 (fun i hi => by
      have hi12 := bit_lt ha hi.2
      obtain ⟨x, hx, e1, e2⟩ := (hb i hi12).1 hi.1
      exact g (i : Int) (mem_sort64.2 (coverF_mem.2 ⟨x, hx, e1, e2⟩)) ((ht _).2 ⟨i, rfl, hi.2⟩))
    rw [this]; rfl
theorem listB_same {a : Nat} (ha : a < 4096) : Same (listB (a : Int)) a := fun y => by
  rw [listB_mem (by omega)]
  constructor
  · rintro ⟨i, _, h2, h3⟩
    exact ⟨i, h2, h3⟩
  · rintro ⟨i, h2, h3⟩
    exact ⟨i, bit_lt ha h3, h2, h3⟩
theorem lt_unique {r s : List Int} (hr : r.Pairwise (fun a b => a < b)) (hs : s.Pairwise (fun a b => a < b)) (h : ∀ x, x ∈ r ↔ x ∈ s) : r = s := by
  have nd : s.Nodup := hs.imp (fun h => by omega)
  rw [sort_unique hr nd h, ← sort_unique hs nd (fun _ => Iff.rfl)]
theorem freeL_lt {l : List S64} {th : List Int} (h : th.Pairwise (fun a b => a < b)) : (freeL l th).Pairwise (fun a b => a < b) := h.sublist List.filter_sublist
theorem freeL_mem {l : List S64} {th : List Int} {c : Int} : c ∈ freeL l th ↔ c ∈ th ∧ anyIn th (sort64 (coverF l c)) = false := by
  unfold freeL
  rw [List.mem_filter]
  constructor
  · rintro ⟨h1, h2⟩
    exact ⟨h1, by simpa using h2⟩
  · rintro ⟨h1, h2⟩
    exact ⟨h1, by simpa using h2⟩
theorem all_lt {k : Nat} (hk : k ≤ 12) : 2 ^ k - 1 < 4096 := by
  have : 2 ^ k ≤ 2 ^ 12 := Nat.pow_le_pow_right (by omega) hk
  have h : (2 : Nat) ^ 12 = 4096 := by decide
  omega
theorem cntI_listB {k : Nat} (hk : k ≤ 12) : cntI k = listB ((2 ^ k - 1 : Nat) : Int) := by
  refine lt_unique (cntI_lt k) (listB_lt _) (fun y => ?_)
  rw [cntI_mem, listB_same (all_lt hk) y]
  constructor
  · intro h
    exact ⟨y.toNat, by omega, by rw [Nat.testBit_two_pow_sub_one]; exact decide_eq_true (by omega)⟩
  · rintro ⟨i, rfl, hi⟩
    rw [Nat.testBit_two_pow_sub_one, decide_eq_true_iff] at hi
    omega
theorem freeL_length (l : List S64) (th : List Int) : (freeL l th).length ≤ th.length := List.length_filter_le _ _
theorem implFree_is {l : List S64} {th : List Int} (hl : l.length ≤ 1048576) (h8 : ∀ x ∈ l, InC x) (ht : th.length ≤ 1048576) : impl_free.f l th = some (freeL l th) := by
  unfold impl_free.f
  rw [if_pos ⟨hl, h8, ht⟩]

/-- The numbers of a list that lie not in another. -/
def lessL (th away : List Int) : List Int := th.filter (fun c => !away.contains c)
theorem contains64_k (l : List Int) (a : Int) (hl : l.length ≤ 1152921504606846976) (k : Nat) (hk : l.length < k) : slices_Contains_int64_int64.f k l a = some (l.contains a) := by
  obtain ⟨r, h1, h2⟩ := index64_l0 l a hl l.length 0 k (by omega) (by simp) hk
  unfold slices_Contains_int64_int64.f slices_Index_int64_int64.f
  rw [h1]
  simp only [Option.bind_some, Option.some.injEq]
  by_cases hr : r ≥ 0
  · rw [decide_eq_true hr]
    exact (h2.1 hr).symm
  · rw [decide_eq_false hr]
    cases hc : l.contains a with
    | false => rfl
    | true => exact absurd (h2.2 hc) hr
theorem lessL_mem {th away : List Int} {c : Int} : c ∈ lessL th away ↔ c ∈ th ∧ c ∉ away := by
  unfold lessL
  rw [List.mem_filter]
  constructor
  · rintro ⟨h1, h2⟩
    exact ⟨h1, by simpa using h2⟩
  · rintro ⟨h1, h2⟩
    exact ⟨h1, by simpa using h2⟩
theorem lessL_length (th away : List Int) : (lessL th away).length ≤ th.length := List.length_filter_le _ _
theorem lessL_short {th away : List Int} {c : Int} (h1 : c ∈ th) (h2 : c ∈ away) : (lessL th away).length < th.length := by
  unfold lessL
  exact List.length_filter_lt_length_iff_exists.2 ⟨c, h1, by simpa using h2⟩
theorem free_sub {l : List S64} {th : List Int} (h : freeL l th ≠ []) : (lessL th (freeL l th)).length < th.length := by
  obtain ⟨c, r, hc⟩ := List.exists_cons_of_ne_nil h
  have : c ∈ freeL l th := by rw [hc]; exact List.mem_cons_self
  exact lessL_short (freeL_mem.1 this).1 this
/-- A set without another. -/
theorem andNot_is {a b : Nat} (ha : a < 65536) (hb : b < 65536) : ∃ c : Nat, Go.bits .andNot .u16 (a : Int) (b : Int) = (c : Int) ∧ c ≤ a ∧ ∀ i, c.testBit i = true ↔ a.testBit i = true ∧ b.testBit i = false := by
  have hdef : Go.bits .andNot .u16 (a : Int) (b : Int) = IntKind.u16.wrap (((BitVec.ofInt 16 (a : Int) &&& ~~~ BitVec.ofInt 16 (b : Int)).toNat : Nat) : Int) := rfl
  obtain ⟨c, hc⟩ : ∃ c, c = (BitVec.ofInt 16 (a : Int) &&& ~~~ BitVec.ofInt 16 (b : Int)).toNat := ⟨_, rfl⟩
  have hlt : c < 65536 := by rw [hc]; exact BitVec.isLt _
  have hbit : ∀ i, c.testBit i = true ↔ a.testBit i = true ∧ b.testBit i = false := by
    intro i
    rw [hc, BitVec.testBit_toNat, BitVec.getLsbD_and, BitVec.getLsbD_not, BitVec.ofInt_natCast, BitVec.ofInt_natCast, BitVec.getLsbD_ofNat, BitVec.getLsbD_ofNat]
    by_cases hi : i < 16
    · rw [decide_eq_true hi]
      cases a.testBit i <;> cases b.testBit i <;> simp
    · have : a.testBit i = false := Nat.testBit_lt_two_pow (Nat.lt_of_lt_of_le ha (Nat.pow_le_pow_right (by omega) (show 16 ≤ i by omega) : 2 ^ 16 ≤ 2 ^ i))
      rw [decide_eq_false hi, this]
      simp
  refine ⟨c, by rw [hdef, ← hc, wu16 hlt], ?_, hbit⟩
  have e : a &&& c = c := by
    apply Nat.eq_of_testBit_eq
    intro i
    rw [Nat.testBit_and]
    cases h : c.testBit i with
    | false => simp
    | true => rw [((hbit i).1 h).1]; rfl
  rw [← e]
  exact Nat.and_le_left
theorem less_listB {a b : Nat} (ha : a < 4096) (hb : b < 4096) : ∃ c : Nat, Go.bits .andNot .u16 (a : Int) (b : Int) = (c : Int) ∧ c < 4096 ∧ listB (c : Int) = lessL (listB (a : Int)) (listB (b : Int)) := by
  obtain ⟨c, h1, h2, h3⟩ := andNot_is (show a < 65536 by omega) (show b < 65536 by omega)
  refine ⟨c, h1, by omega, lt_unique (listB_lt _) ((listB_lt _).sublist List.filter_sublist) (fun y => ?_)⟩
  rw [listB_same (show c < 4096 by omega) y, lessL_mem, listB_same ha y, listB_same hb y]
  constructor
  · rintro ⟨i, rfl, hi⟩
    obtain ⟨g1, g2⟩ := (h3 i).1 hi
    refine ⟨⟨i, rfl, g1⟩, ?_⟩
    rintro ⟨j, hj, g3⟩
    have : j = i := by omega
    rw [this, g2] at g3
    cases g3
  · rintro ⟨⟨i, rfl, g1⟩, g2⟩
    refine ⟨i, rfl, (h3 i).2 ⟨g1, ?_⟩⟩
    cases g : b.testBit i with
    | false => rfl
    | true => exact absurd ⟨i, rfl, g⟩ g2
theorem listB_nil {a : Nat} (ha : a < 4096) : listB (a : Int) = [] ↔ a = 0 := by
  constructor
  · intro h
    apply Nat.eq_of_testBit_eq
    intro i
    rw [Nat.zero_testBit]
    cases g : a.testBit i with
    | false => rfl
    | true =>
      have : (i : Int) ∈ listB (a : Int) := (listB_same ha _).2 ⟨i, rfl, g⟩
      rw [h] at this
      cases this
  · intro h
    subst h
    decide

theorem bitN_is {x : Nat} (hx : x < 12) : bitN x = ((2 ^ x : Nat) : Int) := by
  have e : (2 : Int) ^ x = ((2 ^ x : Nat) : Int) := by norm_cast
  unfold bitN
  rw [e, wu16 (two_lt hx)]
theorem has_bit {a x : Nat} (ha : a < 65536) (hx : x < 12) : Go.bits .and .u16 (a : Int) (bitN x) ≠ 0 ↔ a.testBit x = true := by
  rw [bitN_is hx, bits_and ha (two_lt hx)]
  constructor
  · intro h
    cases g : a.testBit x with
    | true => rfl
    | false =>
      exfalso
      apply h
      have : a &&& 2 ^ x = 0 := (and_zero _ _).2 (fun i hi => by
        rw [Nat.testBit_two_pow, decide_eq_true_iff] at hi
        rw [← hi.2, g] at hi
        cases hi.1)
      rw [this]; rfl
  · intro h g
    have g' : a &&& 2 ^ x = 0 := by omega
    exact (and_zero _ _).1 g' x ⟨h, by rw [Nat.testBit_two_pow]; simp⟩
theorem freeB_spec {m : List Int} (hm : ∀ c : Nat, c < 12 → ∃ a : Nat, rd m (c : Int) = a ∧ a < 65536) {s : Nat} (hs : s < 65536) : ∀ x : Nat, x ≤ 12 → ∃ b : Nat, freeB m s x = b ∧ b < 65536 ∧ ∀ i : Nat, b.testBit i = true ↔ i < x ∧ s.testBit i = true ∧ Go.bits .and .u16 (rd m (i : Int)) s = 0
  | 0, _ => ⟨0, rfl, by omega, fun i => by simp⟩
  | x + 1, hx => by
    obtain ⟨b, h1, h2, h3⟩ := freeB_spec hm hs x (by omega)
    by_cases c : Go.bits .and .u16 (s : Int) (bitN x) ≠ 0 ∧ Go.bits .and .u16 (rd m (x : Int)) s = 0
    · refine ⟨b ||| 2 ^ x, ?_, Nat.or_lt_two_pow (n := 16) h2 (two_lt (by omega)), fun i => ?_⟩
      · simp only [freeB]
        rw [if_pos c, h1, bitN_is (by omega), bits_or h2 (two_lt (by omega))]
      · rw [Nat.testBit_or, Bool.or_eq_true, h3, Nat.testBit_two_pow, decide_eq_true_iff]
        constructor
        · rintro (g | g)
          · exact ⟨by omega, g.2⟩
          · subst g
            exact ⟨by omega, (has_bit hs (by omega)).1 c.1, c.2⟩
        · rintro ⟨g1, g2⟩
          by_cases e : i = x
          · exact .inr e.symm
          · exact .inl ⟨by omega, g2⟩
    · refine ⟨b, ?_, h2, fun i => ?_⟩
      · simp only [freeB]
        rw [if_neg c, h1]
      · rw [h3]
        constructor
        · rintro ⟨g1, g2⟩
          exact ⟨by omega, g2⟩
        · rintro ⟨g1, g2⟩
          refine ⟨?_, g2⟩
          by_cases e : i = x
          · subst e
            exact absurd ⟨(has_bit hs (by omega)).2 g2.1, g2.2⟩ c
          · omega
/-- What is free of a set, as a set. -/
theorem free_is {n : Int} {l : List S64} (h : okC n l = true) {a : Nat} (ha : a < 4096) : ∃ b : Nat, freeB (maskL l) (a : Int) 12 = (b : Int) ∧ b < 4096 ∧ (∀ i : Nat, b.testBit i = true → a.testBit i = true) ∧ listB (b : Int) = freeL l (listB (a : Int)) := by
  have S := says_all l (in12 h)
  obtain ⟨b, h1, h2, h3⟩ := freeB_spec (m := maskL l) (fun c hc => by obtain ⟨v, hv, hlt, _⟩ := S.2 c hc; exact ⟨v, hv, hlt⟩) (show a < 65536 by omega) 12 (by omega)
  have hb : b < 4096 := lt_of_bits (fun i hi => ((h3 i).1 hi).1)
  refine ⟨b, h1, hb, fun i hi => ((h3 i).1 hi).2.1, lt_unique (listB_lt _) (freeL_lt (listB_lt _)) (fun y => ?_)⟩
  rw [listB_same hb y, freeL_mem, listB_same ha y]
  constructor
  · rintro ⟨i, rfl, hi⟩
    obtain ⟨g1, g2, g3⟩ := (h3 i).1 hi
    exact ⟨⟨i, rfl, g2⟩, (over_any h ha (listB_same ha) g1).1 g3⟩
  · rintro ⟨⟨i, rfl, g2⟩, g3⟩
    have g1 := bit_lt ha g2
    exact ⟨i, rfl, (h3 i).2 ⟨g1, g2, (over_any h ha (listB_same ha) g1).2 g3⟩⟩

theorem less_l0 (th away : List Int) (ht : th.length ≤ 1048576) (ha : away.length ≤ 1048576) : ∀ (rest : List Int) (p k : Nat) (acc : List Int), th.drop p = rest → rest.length + away.length < k → acc.length ≤ p → impl_less.l0 k away acc th (th.length : Int) (p : Int) = some (acc ++ lessL rest away) := by
  intro rest
  induction rest with
  | nil =>
    intro p k acc hd hk hacc
    obtain ⟨k, rfl⟩ : ∃ m, k = m + 1 := ⟨k - 1, by omega⟩
    have := of_drop_nil hd
    simp only [impl_less.l0, lessL, List.filter_nil, List.append_nil]
    rw [if_neg (by omega)]
  | cons y rest ih =>
    intro p k acc hd hk hacc
    simp only [List.length_cons] at hk
    obtain ⟨k, rfl⟩ : ∃ m, k = m + 1 := ⟨k - 1, by omega⟩
    obtain ⟨hp, hd', hx⟩ := of_drop hd
    simp only [impl_less.l0, rd, hx]
    rw [if_pos (by omega), if_pos (by omega), if_pos (by omega), contains64_k away y (by omega) k (by omega), step64 hp (by omega)]
    simp only [Option.bind_some, lessL, List.filter_cons]
    cases hc : away.contains y with
    | true =>
      rw [if_pos rfl, ih (p + 1) k acc hd' (by omega) (by omega)]
      simp [lessL]
    | false =>
      rw [if_neg (by simp), if_pos (by omega), ih (p + 1) k (acc ++ [y]) hd' (by omega) (by simp; omega)]
      simp [lessL]
theorem less_is (th away : List Int) (ht : th.length ≤ 1048576) (ha : away.length ≤ 1048576) (k : Nat) (hk : th.length + away.length < k) : impl_less.f k th away = some (lessL th away) := by
  unfold impl_less.f
  have := less_l0 th away ht ha th 0 k [] rfl hk (by simp)
  simpa using this

/-- Round by round: what is taken up, and what is left. -/
def roundsL (l : List S64) : Nat → List Int → List (List Int) × List Int
  | 0, th => ([], th)
  | k + 1, th => if freeL l th = [] then ([], th) else (freeL l th :: (roundsL l k (lessL th (freeL l th))).1, (roundsL l k (lessL th (freeL l th))).2)
theorem roundsL_same (l : List S64) : ∀ (k k' : Nat) (th : List Int), th.length < k → th.length < k' → roundsL l k th = roundsL l k' th
  | k + 1, k' + 1, th, h1, h2 => by
    rw [roundsL, roundsL]
    by_cases h : freeL l th = []
    · rw [if_pos h, if_pos h]
    · have := free_sub h
      rw [if_neg h, if_neg h, roundsL_same l k k' _ (by omega) (by omega)]
def roundsP (l : List S64) (th : List Int) : List (List Int) × List Int := roundsL l (th.length + 1) th
theorem roundsP_nil {l : List S64} {th : List Int} (h : freeL l th = []) : roundsP l th = ([], th) := by
  unfold roundsP
  rw [roundsL, if_pos h]
theorem roundsP_cons {l : List S64} {th : List Int} (h : freeL l th ≠ []) : roundsP l th = (freeL l th :: (roundsP l (lessL th (freeL l th))).1, (roundsP l (lessL th (freeL l th))).2) := by
  unfold roundsP
  rw [roundsL, if_neg h, roundsL_same l th.length ((lessL th (freeL l th)).length + 1) _ (free_sub h) (by omega)]
theorem rounds_l0 {l : List S64} (hl : l.length ≤ 1048576) (h8 : ∀ x ∈ l, InC x) : ∀ (k : Nat) (th : List Int) (acc : List (List Int)), 2 * th.length + 1 < k → acc.length + th.length ≤ 1048576 → impl_rounds.l0 k l th acc = some (acc ++ (roundsP l th).1, (roundsP l th).2)
  | 0, th, acc, hk, _ => by omega
  | k + 1, th, acc, hk, ha => by
    simp only [impl_rounds.l0]
    rw [implFree_is hl h8 (by omega)]
    simp only [Option.bind_some]
    by_cases h : freeL l th = []
    · rw [h, if_pos (by simp), roundsP_nil h, List.append_nil]
    · have hs := free_sub h
      have hfl := freeL_length l th
      have hpos := List.length_pos_iff.2 h
      rw [if_neg (by omega), if_pos (by omega), less_is th _ (by omega) (by omega) k (by omega)]
      simp only [Option.bind_some]
      rw [rounds_l0 hl h8 k _ _ (by omega) (by simp; omega), roundsP_cons h]
      simp
theorem rounds_is {l : List S64} (hl : l.length ≤ 1048576) (h8 : ∀ x ∈ l, InC x) (k : Nat) (th : List Int) (hk : 2 * th.length + 1 < k) (ht : th.length ≤ 1048576) : impl_rounds.f k l th = some (roundsP l th) := by
  unfold impl_rounds.f
  have := rounds_l0 hl h8 k th [] hk (by simp; omega)
  simpa using this
theorem locked_length (l : List S64) : ∀ (k : Nat) (th : List Int), (roundsL l k th).2.length ≤ th.length
  | 0, th => Nat.le_refl _
  | k + 1, th => by
    rw [roundsL]
    split
    · exact Nat.le_refl _
    · exact Nat.le_trans (locked_length l k _) (lessL_length _ _)

/-- What slices.Compare says. -/
def cmpP : List Int → List Int → Int
  | [], [] => 0
  | [], _ :: _ => -1
  | _ :: _, [] => 1
  | x :: a, y :: b => if x = y then cmpP a b else if x < y then -1 else 1
theorem cmp_is (x y : Int) : cmp_Compare_int64.f x y = some (if x = y then 0 else if x < y then -1 else 1) := by
  unfold cmp_Compare_int64.f cmp_isNaN_int64.f
  simp only [bne_self_eq_false, Option.bind_some, Bool.false_eq_true, if_false]
  by_cases h1 : x < y
  · rw [if_pos h1, if_neg (by omega), if_pos h1]
  · by_cases h2 : x > y
    · rw [if_neg h1, if_pos h2, if_neg (by omega), if_neg h1]
    · rw [if_neg h1, if_neg h2, if_pos (by omega)]
theorem compare_l0 (a b : List Int) (ha : a.length ≤ 1048576) (hb : b.length ≤ 1048576) : ∀ (ra rb : List Int) (p k : Nat), a.drop p = ra → b.drop p = rb → a.length = p + ra.length → b.length = p + rb.length → ra.length < k → slices_Compare_int64_int64.l0 k a b a (a.length : Int) (p : Int) = some (cmpP ra rb)
  | [], rb, p, k, hda, hdb, hla, hlb, hk => by
    obtain ⟨k, rfl⟩ : ∃ m, k = m + 1 := ⟨k - 1, by omega⟩
    simp only [List.length_nil] at hla
    simp only [slices_Compare_int64_int64.l0]
    rw [if_neg (by omega)]
    cases rb with
    | nil => rw [if_neg (by simp at hlb; omega)]; rfl
    | cons y rb => rw [if_pos (by simp at hlb; omega)]; rfl
  | x :: ra, [], p, k, hda, hdb, hla, hlb, hk => by
    obtain ⟨hp, hda', hx⟩ := of_drop hda
    obtain ⟨k, rfl⟩ : ∃ m, k = m + 1 := ⟨k - 1, by omega⟩
    simp only [List.length_nil, List.length_cons] at hla hlb
    simp only [slices_Compare_int64_int64.l0]
    rw [if_pos (by omega), if_pos (by omega), if_pos (by omega), if_pos (by omega)]
    rfl
  | x :: ra, y :: rb, p, k, hda, hdb, hla, hlb, hk => by
    obtain ⟨hp, hda', hx⟩ := of_drop hda
    obtain ⟨hp2, hdb', hy⟩ := of_drop hdb
    simp only [List.length_cons] at hla hlb hk
    obtain ⟨k, rfl⟩ : ∃ m, k = m + 1 := ⟨k - 1, by omega⟩
    simp only [slices_Compare_int64_int64.l0, rd, hx, hy, cmp_is, Option.bind_some]
    rw [if_pos (by omega), if_pos (by omega), if_pos (by omega), if_neg (by omega), if_pos (by omega), cmpP]
    by_cases e : x = y
    · rw [if_pos e, if_pos e, if_pos rfl, step64 hp (by omega)]
      exact compare_l0 a b ha hb ra rb (p + 1) k hda' hdb' (by omega) (by omega) (by omega)
    · rw [if_neg e, if_neg e]
      by_cases g : x < y
      · rw [if_pos g, if_neg (by decide)]
      · rw [if_neg g, if_neg (by decide)]
theorem compare_is (a b : List Int) (ha : a.length ≤ 1048576) (hb : b.length ≤ 1048576) (k : Nat) (hk : a.length < k) : slices_Compare_int64_int64.f k a b = some (cmpP a b) := by
  unfold slices_Compare_int64_int64.f
  exact compare_l0 a b ha hb a b 0 k rfl rfl (by simp) (by simp) hk
theorem cmp_before : ∀ (a b : List Int), cmpP a b ≥ 0 ↔ beforeP a b = false
  | [], [] => by simp [cmpP, beforeP]
  | [], _ :: _ => by simp [cmpP, beforeP]
  | _ :: _, [] => by simp [cmpP, beforeP]
  | x :: a, y :: b => by
    simp only [cmpP, beforeP]
    by_cases e : x = y
    · rw [if_pos e, if_pos e]
      exact cmp_before a b
    · rw [if_neg e, if_neg e]
      by_cases g : x < y
      · rw [if_pos g, decide_eq_true g]; simp
      · rw [if_neg g, decide_eq_false g]; simp

/-- The chains of a set. -/
def slipL (n s : Nat) : List Int := (cntI n).filter (fun c => s.testBit c.toNat)
/-- The better of a list, if there is one, and a set's. -/
def fewS (l : List S64) (n : Nat) (best : Option (List Int)) (s : Nat) : Option (List Int) :=
  if (match best with | none => false | some b => decide (b.length < (slipL n s).length) || (decide ((slipL n s).length = b.length) && !beforeP (slipL n s) b)) = true then best
  else if (roundsP l (lessL (cntI n) (slipL n s))).2 = [] then some (slipL n s) else best
theorem fewS_cases (l : List S64) (n : Nat) (best : Option (List Int)) (s : Nat) : fewS l n best s = best ∨ fewS l n best s = some (slipL n s) := by
  unfold fewS
  generalize (match best with | none => false | some b => decide (b.length < (slipL n s).length) || (decide ((slipL n s).length = b.length) && !beforeP (slipL n s) b)) = q
  by_cases h : q = true
  · rw [if_pos h]; exact .inl rfl
  · rw [if_neg h]
    by_cases g : (roundsP l (lessL (cntI n) (slipL n s))).2 = []
    · rw [if_pos g]; exact .inr rfl
    · rw [if_neg g]; exact .inl rfl
def fewT (l : List S64) (n : Nat) : List Int := ((List.range (2 ^ n)).foldl (fewS l n) none).getD []
def impl_FewestSlipped.f (k : Nat) (a0 : Int) (l1 : List S64) : Option (List Int × Int) := (impl_chainCode.f k a0 l1 []).bind fun c => if c = 0 then (if (l1.length ≤ 1048576 ∧ ∀ x ∈ l1, (-128 ≤ x.f0 ∧ x.f0 ≤ 127) ∧ (-128 ≤ x.f1 ∧ x.f1 ≤ 127)) ∧ 0 ≤ a0 ∧ a0 ≤ 12 then some (fewT l1 a0.toNat, 0) else none) else some ([], c)
theorem impl_FewestSlipped.mono : ∀ a0 a1 k, LeO (impl_FewestSlipped.f k a0 a1) (impl_FewestSlipped.f (k + 1) a0 a1) := by
  intro a0 a1 k
  unfold impl_FewestSlipped.f
  repeat' first
      | (with_reducible exact impl_chainCode.mono _ _ _ _)
      | (with_reducible exact LeO.refl _)
      | (with_reducible exact LeO.none _)
      | (with_reducible refine LeO.ite ?_ ?_)
      | (with_reducible refine LeO.bind ?_ (fun _ => ?_))
      | exact impl_chainCode.mono _ _ _ _
      | exact LeO.none _
      | refine LeO.ite ?_ ?_
      | refine LeO.bind ?_ (fun _ => ?_)
theorem slipL_step (n s : Nat) : slipL (n + 1) s = if s.testBit n = true then slipL n s ++ [(n : Int)] else slipL n s := by
  unfold slipL
  rw [show cntI (n + 1) = cntI n ++ [(n : Int)] by simp [cntI, List.range_succ], List.filter_append, List.filter_cons, Int.toNat_natCast]
  split <;> simp
theorem slipL_len (n s : Nat) : (slipL n s).length ≤ n := Nat.le_trans (List.length_filter_le _ _) (by rw [cntI_length]; exact Nat.le_refl _)
theorem bits_and1_i64 {a : Nat} (ha : a < 4096) : Go.bits .and .i64 (a : Int) 1 = ((a % 2 : Nat) : Int) := by
  have hab : a % 2 < 2 := Nat.mod_lt _ (by omega)
  have : Go.bits .and .i64 (a : Int) 1 = IntKind.i64.wrap (((BitVec.ofInt 64 (a : Int) &&& BitVec.ofInt 64 1).toNat : Nat) : Int) := rfl
  have h1 : (BitVec.ofInt 64 1).toNat = 1 := by decide
  have h2 : (BitVec.ofInt 64 (a : Int)).toNat = a := by rw [BitVec.toNat_ofInt]; omega
  rw [this, BitVec.toNat_and, h1, h2, Nat.and_one_is_mod, wi64 (by omega) (by omega)]
def optL : Option (List Int) → List Int := fun o => o.getD []
/-- The value of a list that may be nil. -/
def isNilV (o : Option (List Int)) (v : Value) : Prop := match o with | none => v = .slice none 0 0 | some _ => ∃ b, v.ownBlock = some b
set_option maxHeartbeats 8000000 in
set_option maxRecDepth 100000 in
theorem impl_FewestSlipped.calls (k : Nat) (a0 : Int) (A1 : Option Addr) (c1 : Nat) (l1 : List (S64)) (r1 : List Int) (r2 : Int) (w : World) (hr1 : Kd.C k64 w A1 l1.length l1) (hc1 : l1.length ≤ c1) (h : impl_FewestSlipped.f k a0 l1 = some (r1, r2)) :
    Calls Try.prog 50 #[.int .i64 a0, .slice A1 l1.length c1] w fun e w' => ∃ v0_ : Value, e = .returned (.tuple #[v0_, .int .i64 r2]) ∧ Kd.R (Kd.int .i64) 2 w' w.heap.size (fun _ => True) v0_ r1 ∧ Below w.heap.size w w' := by
  unfold impl_FewestSlipped.f at h
  replace h := Option.bind_eq_some_iff.mp h
  obtain ⟨c, hc, h⟩ := h
  have has : Aside0 (∀ W, Below w.heap.size w W → Calls Try.prog 56 #[.int .i64 a0, .slice A1 l1.length c1, .slice none 0 0] W fun e w' => e = .returned (.int .i64 c) ∧ Below W.heap.size W w') := ⟨fun W hw => impl_chainCode.calls k a0 A1 c1 l1 none 0 [] _ W (Kd.C_below hr1 hw) hc1 (Kd.R_reads' (Kd.R_nil (Kd.int .i64) 2 W 0 (fun _ => True))).2.2 (by simp) hc⟩
  have HB := Aside0.mk (Below.refl w.heap.size w)
  by_cases hc0 : c = 0
  · rw [if_pos hc0] at h
    by_cases hg : (l1.length ≤ 1048576 ∧ ∀ x ∈ l1, (-128 ≤ x.f0 ∧ x.f0 ≤ 127) ∧ (-128 ≤ x.f1 ∧ x.f1 ≤ 127)) ∧ 0 ≤ a0 ∧ a0 ≤ 12
    case neg => rw [if_neg hg] at h; cases h
    rw [if_pos hg] at h
    subst hc0
    obtain ⟨hh, hok⟩ := hg
    obtain ⟨n, rfl⟩ : ∃ n : Nat, a0 = (n : Int) := ⟨a0.toNat, by omega⟩
    simp only [Int.toNat_natCast, Option.some.injEq, Prod.mk.injEq] at h
    obtain ⟨rfl, rfl⟩ := h
    have hn12 : n ≤ 12 := by omega
    have hN : 2 ^ n ≤ 4096 := by
      have h1 : 2 ^ n ≤ 2 ^ 12 := Nat.pow_le_pow_right (by omega) hn12
      have h2 : (2 : Nat) ^ 12 = 4096 := by decide
      omega
    have hco : Aside0 (∀ W, Calls Try.prog 65 #[.int .i64 n] W fun e w' => ∃ v0_ : Value, e = .returned (v0_) ∧ Kd.R (Kd.int .i64) 2 w' W.heap.size (fun _ => True) v0_ (cntI n) ∧ Below W.heap.size W w') := ⟨fun W => impl_counting.calls (n + 1) n _ W (counting_is n (by omega) (n + 1) (by omega))⟩
    have hle : Aside0 (∀ W A c A' c' s, Kd.C (Kd.int .i64) W A (cntI n).length (cntI n) → (cntI n).length ≤ c → Kd.C (Kd.int .i64) W A' (slipL n s).length (slipL n s) → (slipL n s).length ≤ c' → Calls Try.prog 72 #[.slice A (cntI n).length c, .slice A' (slipL n s).length c'] W fun e w' => ∃ v0_ : Value, e = .returned (v0_) ∧ Kd.R (Kd.int .i64) 2 w' W.heap.size (fun _ => True) v0_ (lessL (cntI n) (slipL n s)) ∧ Below W.heap.size W w') := ⟨fun W A c A' c' s h1 h2 h3 h4 => impl_less.calls (2 * n + 1) A c (cntI n) A' c' (slipL n s) _ W h1 h2 h3 h4 (less_is _ _ (by rw [cntI_length]; omega) (by have := slipL_len n s; omega) _ (by rw [cntI_length]; have := slipL_len n s; omega))⟩
    have hro : Aside0 (∀ W v (th : List Int), th.length ≤ 12 → Below w.heap.size w W → Kd.R (Kd.int .i64) 2 W w.heap.size (fun _ => True) v th → Calls Try.prog 74 #[.slice A1 l1.length c1, v] W fun e w' => ∃ (v0_ : Value) (A : Option Addr) (c : Nat), e = .returned (.tuple #[v0_, .slice A (roundsP l1 th).2.length c]) ∧ Below W.heap.size W w') := ⟨fun W v th ht hW hR => by
      obtain ⟨A, c, rfl, _, _⟩ := Kd.R_reads hR
      have hV : Kd.V (Kd.int .i64) 2 W W.heap.size (fun _ => True) (.slice A th.length c) th := Kd.R_V (base' := W.heap.size) hR
      have := impl_rounds.calls (2 * th.length + 2) A1 c1 l1 (fun _ => True) A c th (roundsP l1 th).1 (roundsP l1 th).2 W (Kd.C_below hr1 hW) hc1 hV (rounds_is hh.1 hh.2 _ th (by omega) (by omega))
      refine this.mono ?_
      rintro e w' ⟨v0, v1, rfl, _, hv1, hb⟩
      obtain ⟨A', c', rfl⟩ := Kd.V_slice hv1
      exact ⟨v0, A', c', rfl, hb⟩⟩
    have hcm : Aside0 (∀ W A c A' c' (a b : List Int), a.length ≤ 12 → b.length ≤ 12 → Kd.C (Kd.int .i64) W A a.length a → a.length ≤ c → Kd.C (Kd.int .i64) W A' b.length b → b.length ≤ c' → Calls Try.prog 83 #[.slice A a.length c, .slice A' b.length c'] W fun e w' => e = .returned (.int .i64 (cmpP a b)) ∧ Drawn0 W w') := ⟨fun W A c A' c' a b ha hb h1 h2 h3 h4 => slices_Compare_int64_int64.calls 50 A c a A' c' b _ W h1 h2 h3 h4 (compare_is a b (by omega) (by omega) 50 (by omega))⟩
    have HN := Aside0.mk (And.intro hn12 hN)
    have HWR : Aside0 (wrap64 ((2 : Int) ^ n) = ((2 ^ n : Nat) : Int)) := ⟨by
      have e : (2 : Int) ^ n = ((2 ^ n : Nat) : Int) := by norm_cast
      obtain ⟨N, hNN⟩ : ∃ N : Nat, N = 2 ^ n := ⟨_, rfl⟩
      rw [e, ← hNN]
      rw [← hNN] at hN
      unfold wrap64
      omega⟩
    clear hr1 hc1 hh hc hok hN
    go_enter Try.func50, Try.ntmps50
    go_wp2_with (first | (go_at_call 56; refine (has.out _ HB.out).mono ?_; rintro e w2 ⟨rfl, hb2⟩; have HB2 := Aside0.mk (HB.out.trans (hb2.mono HB.out.size)); clear hb2))
    go_loopg [7, 21] (2 ^ n) (fun gk v7 v21 w' => ∃ (x : Nat) (best : Option (List Int)), v21 = .int .i64 x ∧ Aside0 (x + gk = 2 ^ n) ∧ Aside0 ((optL best).length ≤ 12 ∧ fewT l1 n = (((List.range (2 ^ n)).drop x).foldl (fewS l1 n) best).getD []) ∧ Aside0 (Kd.R (Kd.int .i64) 2 w' w.heap.size (fun _ => True) v7 (optL best)) ∧ Aside0 (isNilV best v7) ∧ Aside0 (Below w.heap.size w w'))
    case atStart => exact ⟨0, none, rfl, ⟨by omega⟩, ⟨by simp [optL], rfl⟩, ⟨Kd.R_nil _ _ _ _ _⟩, ⟨rfl⟩, HB2⟩
    case round =>
      clear HB2
      obtain ⟨x, best, rfl, HK, HS, HO, HNV, HB⟩ := hrel
      by_cases c3 : x < 2 ^ n
      · have c3b1 : decide ((x : Int) < wrap64 ((2 : Int) ^ n)) = true := decide_eq_true (by rw [HWR.out]; exact_mod_cast c3)
        have c3b2 : decide ((x : Int) < ((2 ^ n : Nat) : Int)) = true := decide_eq_true (by exact_mod_cast c3)
        have c3n : decide (x < 2 ^ n) = true := decide_eq_true c3
        have hx12 : x < 4096 := by have := HN.out.2; omega
        have HX : Aside0 (wrap64 ((x : Int) + 1) = ((x + 1 : Nat) : Int)) := ⟨by unfold wrap64; omega⟩
        have hdr : (List.range (2 ^ n)).drop x = x :: (List.range (2 ^ n)).drop (x + 1) := by
          rw [List.drop_eq_getElem_cons (by simpa using c3)]
          simp
        have HS2 : Aside0 (fewT l1 n = (((List.range (2 ^ n)).drop (x + 1)).foldl (fewS l1 n) (fewS l1 n best x)).getD []) := ⟨by rw [HS.out.2, hdr, List.foldl_cons]⟩
        have HL2 : Aside0 ((optL (fewS l1 n best x)).length ≤ 12) := ⟨by
          rcases fewS_cases l1 n best x with h | h
          · rw [h]; exact HS.out.1
          · rw [h]; exact Nat.le_trans (slipL_len n x) HN.out.1⟩
        clear hdr
        obtain ⟨g1, rfl⟩ : ∃ g1, g1 = gk := ⟨_, rfl⟩
        obtain ⟨W0, rfl⟩ : ∃ W0, W0 = wr := ⟨_, rfl⟩
        go_wp2_with (first | ((with_reducible refine gate_dst (N := 24) rfl ?_); refine Kd.R_lit (Kd.int .i64) (w0 := W0) W0.heap.size 2 ?hg (N := 24) ?hd (xs := ([] : List Int)) (inner := []) (ok := fun _ => True) (okp := fun _ => True) ?hr ?hp (fun _ hk => hk) trivial (Below.refl _ _) (Nat.le_refl _) (by simp) ?_; (case hd => rfl); (case hg => rfl); (case hr => first | (go_simp; done) | (go_simp; rfl)); (case hp => exact (Reps.none _ _)); intro v1 w1 ho1 hb1 hg_ hnew_; have HO1 := Aside0.mk ho1; have HB1 := Aside0.mk hb1; have HW1 : Aside0 (∃ b, v1.ownBlock = some b) := ⟨by obtain ⟨b, hb, _⟩ := hnew_; exact ⟨b, hb⟩⟩; clear hg_ hnew_ ho1 hb1))
        go_loopg [9, 26] n (fun gk v9 v26 w' => ∃ c : Nat, v26 = .int .i64 c ∧ Aside0 (c + gk = n) ∧ Aside0 (Kd.R (Kd.int .i64) 2 w' W0.heap.size (fun _ => True) v9 (slipL c x)) ∧ Aside0 (∃ b, v9.ownBlock = some b) ∧ Aside0 (Below W0.heap.size W0 w'))
        case atStart => exact ⟨0, rfl, ⟨by omega⟩, HO1, HW1, HB1⟩
        case round =>
          clear HO1 HW1 HB1
          obtain ⟨c, rfl, HK2, HO2, HW2, HB2⟩ := hrel
          by_cases c4 : c < n
          · have c4b : decide ((c : Int) < (n : Int)) = true := decide_eq_true (by omega)
            have c4n : decide (c < n) = true := decide_eq_true c4
            have hc12 : (c : Int) < 12 := by have := HN.out.1; omega
            have hc12n : c < 12 := by omega
            have HX4 : Aside0 (wrap64 ((c : Int) + 1) = ((c + 1 : Nat) : Int)) := ⟨by unfold wrap64; omega⟩
            have hst := slipL_step c x
            cases ht : x.testBit c with
            | false =>
              rw [ht, if_neg (by decide)] at hst
              have HST := Aside0.mk hst
              have hm : (x / 2 ^ c) % 2 = 0 := by
                rw [Nat.testBit_eq_decide_div_mod_eq, decide_eq_false_iff_not] at ht
                omega
              have hmi : (x : Int) / 2 ^ c = ((x / 2 ^ c : Nat) : Int) := by norm_cast
              have hlt : x / 2 ^ c < 4096 := Nat.lt_of_le_of_lt (Nat.div_le_self _ _) hx12
              have t1 : (Go.bits .and .i64 ((x : Int) / 2 ^ c) 1 == 1) = false := by
                rw [hmi, bits_and1_i64 hlt, hm]
                decide
              clear hst ht hm hmi hlt
              go_wp2
              go_roundg (gk - 1)
              case measure => have := HK2.out; omega
              case rel => exact ⟨c + 1, by first | rfl | rw [HX4.out], ⟨by have := HK2.out; omega⟩, ⟨by rw [HST.out]; exact HO2.out⟩, HW2, HB2⟩
            | true =>
              rw [ht, if_pos rfl] at hst
              have HST := Aside0.mk hst
              have hm : (x / 2 ^ c) % 2 = 1 := by
                rw [Nat.testBit_eq_decide_div_mod_eq, decide_eq_true_iff] at ht
                exact ht
              have hmi : (x : Int) / 2 ^ c = ((x / 2 ^ c : Nat) : Int) := by norm_cast
              have hlt : x / 2 ^ c < 4096 := Nat.lt_of_le_of_lt (Nat.div_le_self _ _) hx12
              have t1 : (Go.bits .and .i64 ((x : Int) / 2 ^ c) 1 == 1) = true := by
                rw [hmi, bits_and1_i64 hlt, hm]
                decide
              clear hst ht hm hmi hlt
              have HLN : Aside0 ((slipL c x).length ≤ 12) := ⟨by have := slipL_len c x; omega⟩
              go_wp2_with (first | ((with_reducible refine gate_builtin (b := .append) (xs := #[.tmp 34, .tmp 36]) rfl ?_); at_builtin; refine Kd.R_append (Kd.int .i64) (w0 := wr) W0.heap.size rfl (.tmp 34) (.tmp 36) 24 2 (.int .i64 0) 8 rfl Try.underlying24 info2 rfl (by decide) (by omega) u9 (slipL c x) (c : Int) [.int .i64 (c : Int)] (fun _ => True) (fun _ => False) rfl rfl ?aP (fun _ hk => hk.elim) ?aF ?aO ?aB ?aS ?aL ?_; (case aP => exact rfl); (case aB => exact Below.refl _ _); (case aF => exact (fun _ _ => trivial)); (case aO => exact HO2.out); (case aS => exact HB2.out.size); (case aL => have := HLN.out; omega); intro v3 w7 ho hb7 hg hat; have HO7 := Aside0.mk ho; have HB7 := Aside0.mk (HB2.out.trans hb7); have HW7 : Aside0 (∃ b, v3.ownBlock = some b) := ⟨by rcases hat with h | ⟨b, h, _⟩; (rw [h]; exact HW2.out); exact ⟨b, h⟩⟩; clear ho hb7 hg hat))
              go_roundg (gk - 1)
              case measure => have := HK2.out; omega
              case rel => exact ⟨c + 1, by first | rfl | rw [HX4.out], ⟨by have := HK2.out; omega⟩, ⟨by rw [HST.out]; exact HO7.out⟩, HW7, HB7⟩
          · obtain rfl : n = c := by have := HK2.out; omega
            have c4b : decide ((n : Int) < (n : Int)) = false := decide_eq_false (by omega)
            have c4n : decide (n < n) = false := decide_eq_false c4
            have HBW := Aside0.mk (HB.out.trans (HB2.out.mono HB.out.size))
            have HO7 := Aside0.mk (Kd.R_below HO.out HB2.out)
            obtain ⟨A9, c9, rfl, hc9, hr9⟩ := Kd.R_reads HO2.out
            have HV9 := HO2
            have HR9 := Aside0.mk (And.intro hr9 hc9)
            have HT : Aside0 ((lessL (cntI n) (slipL n x)).length ≤ 12) := ⟨Nat.le_trans (lessL_length _ _) (by rw [cntI_length]; exact HN.out.1)⟩
            obtain ⟨q, hq⟩ : ∃ q, q = (roundsP l1 (lessL (cntI n) (slipL n x))).2.length := ⟨_, rfl⟩
            have HQ := Aside0.mk hq
            clear hq hc9 hr9 HO2
            cases best with
            | none =>
              obtain rfl : u7 = .slice none 0 0 := HNV.out
              have hnq : ∀ w : World, (binOp .neq 24 (.slice none 0 0) (.slice none 0 0)).run Try.prog w = .ok (.bool false) w := fun w => Go.run_neq_slice_nil w _ _ none 0 0 Try.underlying24
              by_cases gq : (roundsP l1 (lessL (cntI n) (slipL n x))).2 = []
              · have HE : Aside0 (fewS l1 n none x = some (slipL n x)) := ⟨by unfold fewS; rw [if_neg (by simp), if_pos gq]⟩
                have hq0 : q = 0 := by rw [HQ.out, gq]; rfl
                have q0b : ((q : Int) == 0) = true := beq_iff_eq.mpr (by omega)
                have q0n : (q == 0) = true := beq_iff_eq.mpr hq0
                clear gq hq0
                go_wp2_with (first | (go_at_call 65; refine (hco.out _).mono ?_; rintro e w5 ⟨v5, rfl, hv5, hb5⟩; obtain ⟨A5, c5, rfl, hc5, hr5⟩ := Kd.R_reads hv5; have H5 := Aside0.mk (And.intro hr5 hc5); have HB5 := Aside0.mk (below_step (by repeat (first | (with_reducible first | exact HBW.out | apply below_alloc | apply pw_below_drewN | apply below_drew1) | exact HBW.out)) hb5); have HV95 := Aside0.mk (Kd.R_below (by (with_reducible repeat (first | apply Kd.R_alloc | apply Kd.R_drewN | apply Kd.R_drew)); exact HV9.out) hb5); have HO75 := Aside0.mk (Kd.R_below (by (with_reducible repeat (first | apply Kd.R_alloc | apply Kd.R_drewN | apply Kd.R_drew)); exact HO7.out) hb5); clear hv5 hb5 hc5 hr5) | (go_at_call 72; refine (hle.out w5 A5 c5 A9 c9 x H5.out.1 H5.out.2 (Kd.R_reads' HV95.out).2.2 (Kd.R_reads' HV95.out).2.1).mono ?_; rintro e w6 ⟨v6, rfl, hv6, hb6⟩; have H6 := Aside0.mk (Kd.R_lower hv6 HB5.out.size); have HB6 := Aside0.mk (HB5.out.trans (hb6.mono HB5.out.size)); have HV96 := Aside0.mk (Kd.R_below HV95.out hb6); have HO76 := Aside0.mk (Kd.R_below HO75.out hb6); clear hv6 hb6) | (go_at_call 74; refine (hro.out _ _ _ HT.out HB6.out H6.out).mono ?_; rintro e w7 ⟨v7, A7, c7', rfl, hb7⟩; rw [← HQ.out]; have HB7 := Aside0.mk (HB6.out.trans (hb7.mono HB6.out.size)); have HV97 := Aside0.mk (Kd.R_below HV96.out hb7); have HO77 := Aside0.mk (Kd.R_below HO76.out hb7); clear hb7))
                go_roundg (g1 - 1)
                case measure => have := HK.out; omega
                case rel => exact ⟨x + 1, fewS l1 n none x, by first | rfl | rw [HX.out], ⟨by have := HK.out; omega⟩, ⟨HL2.out, HS2.out⟩, ⟨by rw [HE.out]; exact Kd.R_lower HV97.out HB.out.size⟩, ⟨by rw [HE.out]; exact HW2.out⟩, HB7⟩
              · have HE : Aside0 (fewS l1 n none x = none) := ⟨by unfold fewS; rw [if_neg (by simp), if_neg gq]⟩
                have hq0 : q ≠ 0 := fun e => gq (List.length_eq_zero_iff.1 (HQ.out.symm.trans e))
                have q0b : ((q : Int) == 0) = false := beq_eq_false_iff_ne.mpr (by omega)
                have q0n : (q == 0) = false := beq_eq_false_iff_ne.mpr hq0
                clear gq hq0
                go_wp2_with (first | (go_at_call 65; refine (hco.out _).mono ?_; rintro e w5 ⟨v5, rfl, hv5, hb5⟩; obtain ⟨A5, c5, rfl, hc5, hr5⟩ := Kd.R_reads hv5; have H5 := Aside0.mk (And.intro hr5 hc5); have HB5 := Aside0.mk (below_step (by repeat (first | (with_reducible first | exact HBW.out | apply below_alloc | apply pw_below_drewN | apply below_drew1) | exact HBW.out)) hb5); have HV95 := Aside0.mk (Kd.R_below (by (with_reducible repeat (first | apply Kd.R_alloc | apply Kd.R_drewN | apply Kd.R_drew)); exact HV9.out) hb5); have HO75 := Aside0.mk (Kd.R_below (by (with_reducible repeat (first | apply Kd.R_alloc | apply Kd.R_drewN | apply Kd.R_drew)); exact HO7.out) hb5); clear hv5 hb5 hc5 hr5) | (go_at_call 72; refine (hle.out w5 A5 c5 A9 c9 x H5.out.1 H5.out.2 (Kd.R_reads' HV95.out).2.2 (Kd.R_reads' HV95.out).2.1).mono ?_; rintro e w6 ⟨v6, rfl, hv6, hb6⟩; have H6 := Aside0.mk (Kd.R_lower hv6 HB5.out.size); have HB6 := Aside0.mk (HB5.out.trans (hb6.mono HB5.out.size)); have HV96 := Aside0.mk (Kd.R_below HV95.out hb6); have HO76 := Aside0.mk (Kd.R_below HO75.out hb6); clear hv6 hb6) | (go_at_call 74; refine (hro.out _ _ _ HT.out HB6.out H6.out).mono ?_; rintro e w7 ⟨v7, A7, c7', rfl, hb7⟩; rw [← HQ.out]; have HB7 := Aside0.mk (HB6.out.trans (hb7.mono HB6.out.size)); have HV97 := Aside0.mk (Kd.R_below HV96.out hb7); have HO77 := Aside0.mk (Kd.R_below HO76.out hb7); clear hb7))
                go_roundg (g1 - 1)
                case measure => have := HK.out; omega
                case rel => exact ⟨x + 1, fewS l1 n none x, by first | rfl | rw [HX.out], ⟨by have := HK.out; omega⟩, ⟨HL2.out, HS2.out⟩, ⟨by rw [HE.out]; exact HO77.out⟩, ⟨by rw [HE.out]; exact HNV.out⟩, HB7⟩
            | some b =>
              have HO7 : Aside0 (Kd.R (Kd.int .i64) 2 wr w.heap.size (fun _ => True) u7 b) := ⟨HO7.out⟩
              obtain ⟨A7, c7, rfl, hc7, hr7⟩ := Kd.R_reads HO7.out
              obtain ⟨ad, rfl⟩ : ∃ ad, A7 = some ad := by
                obtain ⟨blk, hb⟩ := HNV.out
                cases A7 with
                | none => cases hb
                | some a => exact ⟨a, rfl⟩
              have hnq : ∀ w : World, (binOp .neq 24 (.slice (some ad) b.length c7) (.slice none 0 0)).run Try.prog w = .ok (.bool true) w := fun w => Go.run_neq_slice_nil w _ _ (some ad) _ _ Try.underlying24
              have hcm2 : Aside0 (∀ W, Below wr.heap.size wr W → Calls Try.prog 83 #[.slice A9 (slipL n x).length c9, .slice (some ad) b.length c7] W fun e w' => e = .returned (.int .i64 (cmpP (slipL n x) b)) ∧ Drawn0 W w') := ⟨fun W hW => hcm.out W A9 c9 (some ad) c7 (slipL n x) b (Nat.le_trans (slipL_len n x) HN.out.1) HS.out.1 (Kd.C_below HR9.out.1 hW) HR9.out.2 (Kd.C_below hr7 hW) hc7⟩
              show Code.wp _ _ _ _ _
              have hlb : (optL (some b)).length = b.length := rfl
              clear hc7 hr7
              by_cases g1' : b.length < (slipL n x).length
              · have HE : Aside0 (fewS l1 n (some b) x = some b) := ⟨by unfold fewS; rw [if_pos (by simp only [decide_eq_true g1', Bool.true_or])]⟩
                have g1b : decide ((b.length : Int) < ((slipL n x).length : Int)) = true := decide_eq_true (by omega)
                have g1n : decide (b.length < (slipL n x).length) = true := decide_eq_true g1'
                clear g1'
                go_wp2
                go_roundg (g1 - 1)
                case measure => have := HK.out; omega
                case rel => exact ⟨x + 1, fewS l1 n (some b) x, by first | rfl | rw [HX.out], ⟨by have := HK.out; omega⟩, ⟨HL2.out, HS2.out⟩, ⟨by rw [HE.out]; exact (by (with_reducible repeat (first | apply Kd.R_alloc | apply Kd.R_drewN | apply Kd.R_drew)); exact HO7.out)⟩, ⟨by rw [HE.out]; exact HNV.out⟩, ⟨(by repeat (first | (with_reducible first | exact HBW.out | apply below_alloc | apply pw_below_drewN | apply below_drew1) | exact HBW.out))⟩⟩
              · have g1b : decide ((b.length : Int) < ((slipL n x).length : Int)) = false := decide_eq_false (by omega)
                have g1n : decide (b.length < (slipL n x).length) = false := decide_eq_false g1'
                by_cases g2 : (slipL n x).length = b.length
                · have HG2 := Aside0.mk g2
                  have g2b : (((slipL n x).length : Int) == (b.length : Int)) = true := beq_iff_eq.mpr (by omega)
                  have g2n : ((slipL n x).length == b.length) = true := beq_iff_eq.mpr g2
                  have HG1 := Aside0.mk g1'
                  obtain ⟨cq, hcq⟩ : ∃ cq, cq = cmpP (slipL n x) b := ⟨_, rfl⟩
                  have hcb := cmp_before (slipL n x) b
                  rw [← hcq] at hcb hcm2
                  clear g2 g1' hcq
                  by_cases g3 : 0 ≤ cq
                  · have hb0 : beforeP (slipL n x) b = false := hcb.1 g3
                    have HE : Aside0 (fewS l1 n (some b) x = some b) := ⟨by unfold fewS; rw [if_pos (by simp only [decide_eq_true HG2.out, hb0, Bool.not_false, Bool.and_self, Bool.or_true])]⟩
                    have g3b : decide (0 ≤ cq) = true := decide_eq_true g3
                    clear hb0 hcb g3
                    go_wp2_with (first | (go_at_call 83; refine (hcm2.out _ (Below.refl _ _)).mono ?_; rintro e w4 ⟨rfl, hd⟩; have HBW := Aside0.mk (HBW.out.trans (hd.below.mono HBW.out.size)); have HV9 := Aside0.mk (Kd.R_below HV9.out hd.below); have HO7 := Aside0.mk (Kd.R_below HO7.out hd.below); clear hd))
                    go_roundg (g1 - 1)
                    case measure => have := HK.out; omega
                    case rel => exact ⟨x + 1, fewS l1 n (some b) x, by first | rfl | rw [HX.out], ⟨by have := HK.out; omega⟩, ⟨HL2.out, HS2.out⟩, ⟨by rw [HE.out]; exact (by (with_reducible repeat (first | apply Kd.R_alloc | apply Kd.R_drewN | apply Kd.R_drew)); exact HO7.out)⟩, ⟨by rw [HE.out]; exact HNV.out⟩, ⟨(by repeat (first | (with_reducible first | exact HBW.out | apply below_alloc | apply pw_below_drewN | apply below_drew1) | exact HBW.out))⟩⟩
                  · have hb0 : beforeP (slipL n x) b = true := by
                      cases hh : beforeP (slipL n x) b with
                      | true => rfl
                      | false => exact absurd (hcb.2 hh) g3
                    have HB0 : Aside0 (¬ (decide (b.length < (slipL n x).length) || (decide ((slipL n x).length = b.length) && !beforeP (slipL n x) b)) = true) := ⟨by rw [decide_eq_false HG1.out, hb0]; simp⟩
                    have g3b : decide (0 ≤ cq) = false := decide_eq_false g3
                    clear hb0 hcb g3
                    by_cases gq : (roundsP l1 (lessL (cntI n) (slipL n x))).2 = []
                    · have HE : Aside0 (fewS l1 n (some b) x = some (slipL n x)) := ⟨by unfold fewS; rw [if_neg (HB0.out), if_pos gq]⟩
                      have hq0 : q = 0 := by rw [HQ.out, gq]; rfl
                      have q0b : ((q : Int) == 0) = true := beq_iff_eq.mpr (by omega)
                      have q0n : (q == 0) = true := beq_iff_eq.mpr hq0
                      clear gq hq0
                      go_wp2_with (first | (go_at_call 83; refine (hcm2.out _ (Below.refl _ _)).mono ?_; rintro e w4 ⟨rfl, hd⟩; have HBW := Aside0.mk (HBW.out.trans (hd.below.mono HBW.out.size)); have HV9 := Aside0.mk (Kd.R_below HV9.out hd.below); have HO7 := Aside0.mk (Kd.R_below HO7.out hd.below); clear hd) | (go_at_call 65; refine (hco.out _).mono ?_; rintro e w5 ⟨v5, rfl, hv5, hb5⟩; obtain ⟨A5, c5, rfl, hc5, hr5⟩ := Kd.R_reads hv5; have H5 := Aside0.mk (And.intro hr5 hc5); have HB5 := Aside0.mk (below_step (by repeat (first | (with_reducible first | exact HBW.out | apply below_alloc | apply pw_below_drewN | apply below_drew1) | exact HBW.out)) hb5); have HV95 := Aside0.mk (Kd.R_below (by (with_reducible repeat (first | apply Kd.R_alloc | apply Kd.R_drewN | apply Kd.R_drew)); exact HV9.out) hb5); have HO75 := Aside0.mk (Kd.R_below (by (with_reducible repeat (first | apply Kd.R_alloc | apply Kd.R_drewN | apply Kd.R_drew)); exact HO7.out) hb5); clear hv5 hb5 hc5 hr5) | (go_at_call 72; refine (hle.out w5 A5 c5 A9 c9 x H5.out.1 H5.out.2 (Kd.R_reads' HV95.out).2.2 (Kd.R_reads' HV95.out).2.1).mono ?_; rintro e w6 ⟨v6, rfl, hv6, hb6⟩; have H6 := Aside0.mk (Kd.R_lower hv6 HB5.out.size); have HB6 := Aside0.mk (HB5.out.trans (hb6.mono HB5.out.size)); have HV96 := Aside0.mk (Kd.R_below HV95.out hb6); have HO76 := Aside0.mk (Kd.R_below HO75.out hb6); clear hv6 hb6) | (go_at_call 74; refine (hro.out _ _ _ HT.out HB6.out H6.out).mono ?_; rintro e w7 ⟨v7, A7, c7', rfl, hb7⟩; rw [← HQ.out]; have HB7 := Aside0.mk (HB6.out.trans (hb7.mono HB6.out.size)); have HV97 := Aside0.mk (Kd.R_below HV96.out hb7); have HO77 := Aside0.mk (Kd.R_below HO76.out hb7); clear hb7))
                      go_roundg (g1 - 1)
                      case measure => have := HK.out; omega
                      case rel => exact ⟨x + 1, fewS l1 n (some b) x, by first | rfl | rw [HX.out], ⟨by have := HK.out; omega⟩, ⟨HL2.out, HS2.out⟩, ⟨by rw [HE.out]; exact Kd.R_lower HV97.out HB.out.size⟩, ⟨by rw [HE.out]; exact HW2.out⟩, HB7⟩
                    · have HE : Aside0 (fewS l1 n (some b) x = (some b)) := ⟨by unfold fewS; rw [if_neg (HB0.out), if_neg gq]⟩
                      have hq0 : q ≠ 0 := fun e => gq (List.length_eq_zero_iff.1 (HQ.out.symm.trans e))
                      have q0b : ((q : Int) == 0) = false := beq_eq_false_iff_ne.mpr (by omega)
                      have q0n : (q == 0) = false := beq_eq_false_iff_ne.mpr hq0
                      clear gq hq0
                      go_wp2_with (first | (go_at_call 83; refine (hcm2.out _ (Below.refl _ _)).mono ?_; rintro e w4 ⟨rfl, hd⟩; have HBW := Aside0.mk (HBW.out.trans (hd.below.mono HBW.out.size)); have HV9 := Aside0.mk (Kd.R_below HV9.out hd.below); have HO7 := Aside0.mk (Kd.R_below HO7.out hd.below); clear hd) | (go_at_call 65; refine (hco.out _).mono ?_; rintro e w5 ⟨v5, rfl, hv5, hb5⟩; obtain ⟨A5, c5, rfl, hc5, hr5⟩ := Kd.R_reads hv5; have H5 := Aside0.mk (And.intro hr5 hc5); have HB5 := Aside0.mk (below_step (by repeat (first | (with_reducible first | exact HBW.out | apply below_alloc | apply pw_below_drewN | apply below_drew1) | exact HBW.out)) hb5); have HV95 := Aside0.mk (Kd.R_below (by (with_reducible repeat (first | apply Kd.R_alloc | apply Kd.R_drewN | apply Kd.R_drew)); exact HV9.out) hb5); have HO75 := Aside0.mk (Kd.R_below (by (with_reducible repeat (first | apply Kd.R_alloc | apply Kd.R_drewN | apply Kd.R_drew)); exact HO7.out) hb5); clear hv5 hb5 hc5 hr5) | (go_at_call 72; refine (hle.out w5 A5 c5 A9 c9 x H5.out.1 H5.out.2 (Kd.R_reads' HV95.out).2.2 (Kd.R_reads' HV95.out).2.1).mono ?_; rintro e w6 ⟨v6, rfl, hv6, hb6⟩; have H6 := Aside0.mk (Kd.R_lower hv6 HB5.out.size); have HB6 := Aside0.mk (HB5.out.trans (hb6.mono HB5.out.size)); have HV96 := Aside0.mk (Kd.R_below HV95.out hb6); have HO76 := Aside0.mk (Kd.R_below HO75.out hb6); clear hv6 hb6) | (go_at_call 74; refine (hro.out _ _ _ HT.out HB6.out H6.out).mono ?_; rintro e w7 ⟨v7, A7, c7', rfl, hb7⟩; rw [← HQ.out]; have HB7 := Aside0.mk (HB6.out.trans (hb7.mono HB6.out.size)); have HV97 := Aside0.mk (Kd.R_below HV96.out hb7); have HO77 := Aside0.mk (Kd.R_below HO76.out hb7); clear hb7))
                      go_roundg (g1 - 1)
                      case measure => have := HK.out; omega
                      case rel => exact ⟨x + 1, fewS l1 n (some b) x, by first | rfl | rw [HX.out], ⟨by have := HK.out; omega⟩, ⟨HL2.out, HS2.out⟩, ⟨by rw [HE.out]; exact HO77.out⟩, ⟨by rw [HE.out]; exact HNV.out⟩, HB7⟩
                · have g2b : (((slipL n x).length : Int) == (b.length : Int)) = false := beq_eq_false_iff_ne.mpr (by omega)
                  have g2n : ((slipL n x).length == b.length) = false := beq_eq_false_iff_ne.mpr g2
                  have HB0 : Aside0 (¬ (decide (b.length < (slipL n x).length) || (decide ((slipL n x).length = b.length) && !beforeP (slipL n x) b)) = true) := ⟨by rw [decide_eq_false g1', decide_eq_false g2]; simp⟩
                  clear g2
                  by_cases gq : (roundsP l1 (lessL (cntI n) (slipL n x))).2 = []
                  · have HE : Aside0 (fewS l1 n (some b) x = some (slipL n x)) := ⟨by unfold fewS; rw [if_neg (HB0.out), if_pos gq]⟩
                    have hq0 : q = 0 := by rw [HQ.out, gq]; rfl
                    have q0b : ((q : Int) == 0) = true := beq_iff_eq.mpr (by omega)
                    have q0n : (q == 0) = true := beq_iff_eq.mpr hq0
                    clear gq hq0
                    go_wp2_with (first | (go_at_call 65; refine (hco.out _).mono ?_; rintro e w5 ⟨v5, rfl, hv5, hb5⟩; obtain ⟨A5, c5, rfl, hc5, hr5⟩ := Kd.R_reads hv5; have H5 := Aside0.mk (And.intro hr5 hc5); have HB5 := Aside0.mk (below_step (by repeat (first | (with_reducible first | exact HBW.out | apply below_alloc | apply pw_below_drewN | apply below_drew1) | exact HBW.out)) hb5); have HV95 := Aside0.mk (Kd.R_below (by (with_reducible repeat (first | apply Kd.R_alloc | apply Kd.R_drewN | apply Kd.R_drew)); exact HV9.out) hb5); have HO75 := Aside0.mk (Kd.R_below (by (with_reducible repeat (first | apply Kd.R_alloc | apply Kd.R_drewN | apply Kd.R_drew)); exact HO7.out) hb5); clear hv5 hb5 hc5 hr5) | (go_at_call 72; refine (hle.out w5 A5 c5 A9 c9 x H5.out.1 H5.out.2 (Kd.R_reads' HV95.out).2.2 (Kd.R_reads' HV95.out).2.1).mono ?_; rintro e w6 ⟨v6, rfl, hv6, hb6⟩; have H6 := Aside0.mk (Kd.R_lower hv6 HB5.out.size); have HB6 := Aside0.mk (HB5.out.trans (hb6.mono HB5.out.size)); have HV96 := Aside0.mk (Kd.R_below HV95.out hb6); have HO76 := Aside0.mk (Kd.R_below HO75.out hb6); clear hv6 hb6) | (go_at_call 74; refine (hro.out _ _ _ HT.out HB6.out H6.out).mono ?_; rintro e w7 ⟨v7, A7, c7', rfl, hb7⟩; rw [← HQ.out]; have HB7 := Aside0.mk (HB6.out.trans (hb7.mono HB6.out.size)); have HV97 := Aside0.mk (Kd.R_below HV96.out hb7); have HO77 := Aside0.mk (Kd.R_below HO76.out hb7); clear hb7))
                    go_roundg (g1 - 1)
                    case measure => have := HK.out; omega
                    case rel => exact ⟨x + 1, fewS l1 n (some b) x, by first | rfl | rw [HX.out], ⟨by have := HK.out; omega⟩, ⟨HL2.out, HS2.out⟩, ⟨by rw [HE.out]; exact Kd.R_lower HV97.out HB.out.size⟩, ⟨by rw [HE.out]; exact HW2.out⟩, HB7⟩
                  · have HE : Aside0 (fewS l1 n (some b) x = (some b)) := ⟨by unfold fewS; rw [if_neg (HB0.out), if_neg gq]⟩
                    have hq0 : q ≠ 0 := fun e => gq (List.length_eq_zero_iff.1 (HQ.out.symm.trans e))
                    have q0b : ((q : Int) == 0) = false := beq_eq_false_iff_ne.mpr (by omega)
                    have q0n : (q == 0) = false := beq_eq_false_iff_ne.mpr hq0
                    clear gq hq0
                    go_wp2_with (first | (go_at_call 65; refine (hco.out _).mono ?_; rintro e w5 ⟨v5, rfl, hv5, hb5⟩; obtain ⟨A5, c5, rfl, hc5, hr5⟩ := Kd.R_reads hv5; have H5 := Aside0.mk (And.intro hr5 hc5); have HB5 := Aside0.mk (below_step (by repeat (first | (with_reducible first | exact HBW.out | apply below_alloc | apply pw_below_drewN | apply below_drew1) | exact HBW.out)) hb5); have HV95 := Aside0.mk (Kd.R_below (by (with_reducible repeat (first | apply Kd.R_alloc | apply Kd.R_drewN | apply Kd.R_drew)); exact HV9.out) hb5); have HO75 := Aside0.mk (Kd.R_below (by (with_reducible repeat (first | apply Kd.R_alloc | apply Kd.R_drewN | apply Kd.R_drew)); exact HO7.out) hb5); clear hv5 hb5 hc5 hr5) | (go_at_call 72; refine (hle.out w5 A5 c5 A9 c9 x H5.out.1 H5.out.2 (Kd.R_reads' HV95.out).2.2 (Kd.R_reads' HV95.out).2.1).mono ?_; rintro e w6 ⟨v6, rfl, hv6, hb6⟩; have H6 := Aside0.mk (Kd.R_lower hv6 HB5.out.size); have HB6 := Aside0.mk (HB5.out.trans (hb6.mono HB5.out.size)); have HV96 := Aside0.mk (Kd.R_below HV95.out hb6); have HO76 := Aside0.mk (Kd.R_below HO75.out hb6); clear hv6 hb6) | (go_at_call 74; refine (hro.out _ _ _ HT.out HB6.out H6.out).mono ?_; rintro e w7 ⟨v7, A7, c7', rfl, hb7⟩; rw [← HQ.out]; have HB7 := Aside0.mk (HB6.out.trans (hb7.mono HB6.out.size)); have HV97 := Aside0.mk (Kd.R_below HV96.out hb7); have HO77 := Aside0.mk (Kd.R_below HO76.out hb7); clear hb7))
                    go_roundg (g1 - 1)
                    case measure => have := HK.out; omega
                    case rel => exact ⟨x + 1, fewS l1 n (some b) x, by first | rfl | rw [HX.out], ⟨by have := HK.out; omega⟩, ⟨HL2.out, HS2.out⟩, ⟨by rw [HE.out]; exact HO77.out⟩, ⟨by rw [HE.out]; exact HNV.out⟩, HB7⟩
      · have hxn : ¬ x < 2 ^ n := c3
        have c3b1 : decide ((x : Int) < wrap64 ((2 : Int) ^ n)) = false := decide_eq_false (by rw [HWR.out]; exact_mod_cast c3)
        have c3b2 : decide ((x : Int) < ((2 ^ n : Nat) : Int)) = false := decide_eq_false (by exact_mod_cast c3)
        have c3n : decide (x < 2 ^ n) = false := decide_eq_false c3
        have HE : Aside0 (fewT l1 n = optL best) := ⟨by rw [HS.out.2, List.drop_eq_nil_of_le (by simp; omega)]; rfl⟩
        go_wp2
        exact bodyPost_ret (v := .tuple #[u7, .int .i64 0]) (by simp [results, Try.results50, go_sem]) rfl ⟨_, rfl, by rw [HE.out]; exact HO.out, HB.out⟩
  · rw [if_neg hc0] at h
    simp only [Option.some.injEq, Prod.mk.injEq] at h
    obtain ⟨rfl, rfl⟩ := h
    have hcb : (c == 0) = false := beq_eq_false_iff_ne.mpr hc0
    have hcb' : (c != 0) = true := bne_iff_ne.mpr hc0
    clear hr1 hc1 hc0 hc
    go_enter Try.func50, Try.ntmps50
    go_wp2_with (first | (go_at_call 56; refine (has.out _ HB.out).mono ?_; rintro e w2 ⟨rfl, hb2⟩; have HB2 := Aside0.mk (HB.out.trans (hb2.mono HB.out.size)); clear hb2))
    exact bodyPost_ret (v := .tuple #[.slice none 0 0, .int .i64 (c)]) (by simp [results, Try.results50, go_sem]) rfl ⟨_, rfl, Kd.R_nil _ _ _ _ _, HB2.out⟩

end Go.Proofs.Ytjcdgimldhodiaa.PFnExactFewestSlipped
