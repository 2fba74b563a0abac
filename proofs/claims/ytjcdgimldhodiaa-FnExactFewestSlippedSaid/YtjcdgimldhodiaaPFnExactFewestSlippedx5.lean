/- Printed by this session's plus.py out of the translation, some functions' texts being this session's own. -/
import Derived.Test.YtjcdgimldhodiaaPFnExactFewestSlippedx0
import Derived.Test.YtjcdgimldhodiaaPFnExactFewestSlippedx1
import Derived.Test.YtjcdgimldhodiaaPFnExactFewestSlippedx3
import Derived.Test.YtjcdgimldhodiaaPFnExactFewestSlippedx4
namespace Go.Proofs.Ytjcdgimldhodiaa.PFnExactFewestSlipped
open Go.RowKit Go.Proofs.YtjcdgimldhodiaaW.PrintWords Go.Proofs.YtjcdgimldhodiaaW.PrintLast Go.Proofs.YtjcdgimldhodiaaW.PrintMore
attribute [local go_sem] max2_int min2_int max_two min_two max_three min_three max_four min_four   -- for this text's walks alone
set_option linter.unusedVariables false
set_option linter.unusedSimpArgs false

attribute [local go_sem high] eqA64
/-! ### spec_FewestSlipped: function 49: this session's own text -/
/-- An empty row that a literal has made. -/
theorem empty_lit {W : World} {base : Nat} {e : TypeId} (h : base ≤ W.heap.size) : Kd.R (Kd.int .i64) e (W.alloc (.cells #[] e)) base (fun _ => True) (.slice (some ⟨W.heap.size, 0, none⟩) 0 0) [] :=
  Kd.R_of_own (enc := Value.int .i64) (h1 := fun _ => rfl) (xs := []) ⟨by simp [encs], .inr ⟨W.heap.size, 0, #[], rfl, h, blk_new W _, Nat.le_refl _, by unfold maxLen; omega, by simp, by simp [encs]⟩⟩ (fun _ _ => trivial)

theorem maskL_length (l : List S64) : (maskL l).length = 12 := by
  have key : ∀ (l : List S64) (m : List Int), (l.foldl orS m).length = m.length := by
    intro l
    induction l with
    | nil => intro m; rfl
    | cons y l ih => intro m; rw [List.foldl_cons, ih, orS_length]
  exact key _ _
theorem maskL_form (l : List S64) : ∃ m0 m1 m2 m3 m4 m5 m6 m7 m8 m9 m10 m11 : Int, maskL l = [m0, m1, m2, m3, m4, m5, m6, m7, m8, m9, m10, m11] := by
  have h := maskL_length l
  generalize maskL l = m at h
  match m, h with
  | [m0, m1, m2, m3, m4, m5, m6, m7, m8, m9, m10, m11], _ => exact ⟨m0, m1, m2, m3, m4, m5, m6, m7, m8, m9, m10, m11, rfl⟩

theorem of_drop {α : Type} {xs : List α} {p : Nat} {x : α} {rest : List α} (h : xs.drop p = x :: rest) : p < xs.length ∧ xs.drop (p + 1) = rest ∧ ∀ d, xs.getD ((p : Int)).toNat d = x := by
  have hp : p < xs.length := by
    rcases Nat.lt_or_ge p xs.length with h1 | h1
    · exact h1
    · rw [List.drop_eq_nil_of_le h1] at h; cases h
  rw [List.drop_eq_getElem_cons hp] at h
  injection h with h1 h2
  refine ⟨hp, h2, fun d => ?_⟩
  rw [Int.toNat_natCast, List.getD_eq_getElem?_getD, List.getElem?_eq_getElem hp]
  exact h1

theorem of_drop_nil {α : Type} {xs : List α} {p : Nat} (h : xs.drop p = []) : xs.length ≤ p := List.drop_eq_nil_iff.1 h

theorem step64 {p n : Nat} (h : p < n) (hn : n ≤ 1152921504606846976) : wrap64 ((p : Int) + 1) = ((p + 1 : Nat) : Int) := by
  unfold wrap64
  omega

theorem take_set_at {α : Type} (ys : List α) (p : Nat) (v : α) (h : p < ys.length) : (ys.set p v).take (p + 1) = ys.take p ++ [v] := by
  rw [List.take_succ_eq_append_getElem (by simpa using h), List.take_set_of_le (Nat.le_refl _)]
  simp

theorem i8_in {a : Int} (h : (Lit.int .i8 a).wf = true) : -128 ≤ a ∧ a ≤ 127 := by
  simp [Lit.wf, IntKind.min, IntKind.max, IntKind.signed, IntKind.bits] at h
  omega

theorem i64_in {a : Int} (h : (Lit.int .i64 a).wf = true) : -9223372036854775808 ≤ a ∧ a ≤ 9223372036854775807 := by
  simp [Lit.wf, IntKind.min, IntKind.max, IntKind.signed, IntKind.bits] at h
  omega

theorem w64_id {a : Int} (h : -9223372036854775808 ≤ a ∧ a ≤ 9223372036854775807) : wrap64 a = a := by
  unfold wrap64
  omega

theorem w8_cases (a : Int) : IntKind.i8.wrap a = if a % 256 ≥ 128 then a % 256 - 256 else a % 256 := by
  simp [IntKind.wrap, IntKind.signed, IntKind.bits]

theorem some_dec {p q : Prop} [Decidable p] [Decidable q] (h : p ↔ q) : some (decide p) = some (decide q) := by rw [decide_eq_decide.2 h]
theorem some_decF {q : Prop} [Decidable q] (h : ¬ q) : some false = some (decide q) := by rw [decide_eq_false h]
theorem some_decT {q : Prop} [Decidable q] (h : q) : some true = some (decide q) := by rw [decide_eq_true h]

def samC (x y : S64) : Bool := x.f0 == y.f0 && x.f1 == y.f1
theorem samC_eq {x y : S64} (h : samC x y = true) : x = y := by
  cases x; cases y
  simp [samC] at h
  rw [h.1, h.2]
theorem samC_ne {x y : S64} (h : samC x y = false) : x ≠ y := by
  intro e
  rw [e] at h
  simp [samC] at h
instance : DecidableEq S64 := fun x y => decidable_of_iff (samC x y = true) ⟨samC_eq, fun h => by rw [h]; simp [samC]⟩
/-- Covers as they may be: chains below n, two of them, none twice; those of s have been. -/
def okGo (n : Int) : List S64 → List S64 → Bool
  | _, [] => true
  | s, x :: r => if (0 ≤ x.f0 ∧ x.f0 < n) ∧ (0 ≤ x.f1 ∧ x.f1 < n) ∧ x.f0 ≠ x.f1 ∧ x ∉ s then okGo n (s ++ [x]) r else false
def okC (n : Int) (l : List S64) : Bool := decide (0 ≤ n ∧ n ≤ 12 ∧ l.length ≤ 60) && okGo n [] l
theorem okGo_all {n : Int} : ∀ {r s : List S64}, okGo n s r = true → (∀ x ∈ r, (0 ≤ x.f0 ∧ x.f0 < n) ∧ (0 ≤ x.f1 ∧ x.f1 < n) ∧ x.f0 ≠ x.f1) ∧ r.Nodup ∧ ∀ x ∈ r, x ∉ s
  | [], s, _ => by simp
  | x :: r, s, h => by
    simp only [okGo] at h
    split at h
    · rename_i hx
      obtain ⟨h1, h2, h3⟩ := okGo_all h
      refine ⟨fun y hy => ?_, List.nodup_cons.2 ⟨fun m => h3 x m (by simp), h2⟩, fun y hy => ?_⟩
      · rcases List.mem_cons.1 hy with rfl | hy
        · exact ⟨hx.1, hx.2.1, hx.2.2.1⟩
        · exact h1 y hy
      · rcases List.mem_cons.1 hy with rfl | hy
        · exact hx.2.2.2
        · exact fun m => h3 y hy (List.mem_append_left _ m)
    · cases h
theorem okC_ok {n : Int} {l : List S64} (h : okC n l = true) : 0 ≤ n ∧ n ≤ 12 ∧ l.length ≤ 60 ∧ (∀ x ∈ l, (0 ≤ x.f0 ∧ x.f0 < n) ∧ (0 ≤ x.f1 ∧ x.f1 < n) ∧ x.f0 ≠ x.f1) ∧ l.Nodup := by
  unfold okC at h
  rw [Bool.and_eq_true, decide_eq_true_iff] at h
  obtain ⟨h1, h2, _⟩ := okGo_all h.2
  exact ⟨h.1.1, h.1.2.1, h.1.2.2, h1, h2⟩
def InC (x : S64) : Prop := (-128 ≤ x.f0 ∧ x.f0 ≤ 127) ∧ (-128 ≤ x.f1 ∧ x.f1 ≤ 127)

/-- 0, 1, .. below n. -/
def cntI (n : Nat) : List Int := (List.range n).map fun (i : Nat) => (i : Int)
theorem cntI_length (n : Nat) : (cntI n).length = n := by simp [cntI]
theorem perm_of_sub : ∀ (r s : List Int), r.Nodup → (∀ x ∈ r, x ∈ s) → s.length ≤ r.length → r.Perm s
  | [], s, _, _, hl => by
    have : s = [] := List.length_eq_zero_iff.1 (by simpa using hl)
    rw [this]
  | x :: r, s, hn, hs, hl => by
    obtain ⟨h1, h2⟩ := List.nodup_cons.1 hn
    have hx := hs x List.mem_cons_self
    have hle := List.length_erase_of_mem hx
    have ih := perm_of_sub r (s.erase x) h2 (fun y hy => (List.mem_erase_of_ne (fun e => by rw [e] at hy; exact h1 hy)).2 (hs y (List.mem_cons_of_mem _ hy))) (by rw [hle]; simp at hl; omega)
    exact (List.Perm.cons x ih).trans (List.perm_cons_erase hx).symm
theorem cntI_mem {n : Nat} {x : Int} : x ∈ cntI n ↔ 0 ≤ x ∧ x < n := by
  unfold cntI
  rw [List.mem_map]
  constructor
  · intro ⟨i, hi, e⟩
    have := List.mem_range.1 hi
    omega
  · intro h
    exact ⟨x.toNat, List.mem_range.2 (by omega), by omega⟩
theorem cntI_lt (n : Nat) : (cntI n).Pairwise (fun a b => a < b) := by
  unfold cntI
  rw [List.pairwise_map]
  exact List.pairwise_lt_range.imp (fun h => by omega)
theorem cntI_nodup (n : Nat) : (cntI n).Nodup := (cntI_lt n).imp (fun h => by omega)

theorem wu16 {a : Nat} (h : a < 65536) : IntKind.u16.wrap (a : Int) = a := by
  have : IntKind.u16.wrap (a : Int) = (a : Int) % 65536 := by simp [IntKind.wrap, IntKind.signed, IntKind.bits]
  rw [this]
  omega
theorem wu64 {a : Nat} (h : a < 65536) : IntKind.u64.wrap (a : Int) = a := by
  have : IntKind.u64.wrap (a : Int) = (a : Int) % 18446744073709551616 := by simp [IntKind.wrap, IntKind.signed, IntKind.bits]
  rw [this]
  omega
theorem bits_or {a b : Nat} (ha : a < 65536) (hb : b < 65536) : Go.bits .or .u16 (a : Int) (b : Int) = ((a ||| b : Nat) : Int) := by
  have hab : a ||| b < 65536 := Nat.or_lt_two_pow (n := 16) ha hb
  have : Go.bits .or .u16 (a : Int) (b : Int) = IntKind.u16.wrap (((BitVec.ofInt 16 (a : Int) ||| BitVec.ofInt 16 (b : Int)).toNat : Nat) : Int) := rfl
  rw [this, BitVec.toNat_or]
  have e : ∀ x : Nat, x < 65536 → (BitVec.ofInt 16 (x : Int)).toNat = x := fun x hx => by
    rw [BitVec.toNat_ofInt]
    omega
  rw [e a ha, e b hb, wu16 hab]
theorem bits_and1 {a : Nat} (ha : a < 65536) : Go.bits .and .u16 (a : Int) 1 = ((a % 2 : Nat) : Int) := by
  have : Go.bits .and .u16 (a : Int) 1 = IntKind.u16.wrap (((BitVec.ofInt 16 (a : Int) &&& BitVec.ofInt 16 ((1 : Nat) : Int)).toNat : Nat) : Int) := rfl
  rw [this, BitVec.toNat_and]
  have e : ∀ x : Nat, x < 65536 → (BitVec.ofInt 16 (x : Int)).toNat = x := fun x hx => by
    rw [BitVec.toNat_ofInt]
    omega
  rw [e a ha, e 1 (by omega), Nat.and_one_is_mod, wu16 (by omega)]
/-- Is a bit set? -/
def bitI (z i : Int) : Bool := decide (Go.bits .and .u16 (shr .u16 z (IntKind.u64.wrap i)) 1 = 1)
theorem bitI_is {a i : Nat} (ha : a < 65536) (hi : i < 12) : bitI (a : Int) (i : Int) = a.testBit i := by
  have hlt : a / 2 ^ i < 65536 := Nat.lt_of_le_of_lt (Nat.div_le_self _ _) ha
  have e : shr .u16 (a : Int) (IntKind.u64.wrap (i : Int)) = ((a / 2 ^ i : Nat) : Int) := by
    unfold shr
    rw [wu64 (by omega), Int.toNat_natCast, show IntKind.u16.bits = 16 from rfl, Nat.min_eq_left (by omega)]
    norm_cast
  unfold bitI
  rw [e, bits_and1 hlt, Nat.testBit_eq_decide_div_mod_eq]
  exact decide_eq_decide.2 (by omega)
theorem one_bit {v : Nat} (hv : v < 12) : IntKind.u16.wrap (2 ^ min (IntKind.u64.wrap (v : Int)).toNat 16) = ((2 ^ v : Nat) : Int) := by
  rw [wu64 (by omega), Int.toNat_natCast, Nat.min_eq_left (by omega)]
  have h : 2 ^ v < 65536 := Nat.lt_of_lt_of_le (Nat.pow_lt_pow_right (by omega) (show v < 16 by omega)) (by decide)
  have e : (2 : Int) ^ v = ((2 ^ v : Nat) : Int) := by norm_cast
  rw [e, wu16 h]
/-- What the masks say. -/
def Says (m : List Int) (s : List S64) : Prop := m.length = 12 ∧ ∀ c : Nat, c < 12 → ∃ a : Nat, rd m (c : Int) = a ∧ a < 65536 ∧ ∀ i : Nat, i < 12 → (a.testBit i = true ↔ ∃ x ∈ s, x.f1 = (c : Int) ∧ x.f0 = (i : Int))
theorem says_zero : Says [0, 0, 0, 0, 0, 0, 0, 0, 0, 0, 0, 0] [] := by
  refine ⟨rfl, fun c hc => ⟨0, ?_, by omega, fun i _ => by simp⟩⟩
  have : ∀ c, c < 12 → rd [0, 0, 0, 0, 0, 0, 0, 0, 0, 0, 0, 0] ((c : Nat) : Int) = 0 := by decide
  exact this c hc
theorem says_or {m : List Int} {s : List S64} {x : S64} (h : Says m s) (h0 : 0 ≤ x.f0 ∧ x.f0 < 12) (h1 : 0 ≤ x.f1 ∧ x.f1 < 12) : Says (orS m x) (s ++ [x]) := by
  obtain ⟨u, hu⟩ : ∃ u : Nat, x.f1 = (u : Int) := ⟨x.f1.toNat, by omega⟩
  obtain ⟨v, hv⟩ : ∃ v : Nat, x.f0 = (v : Int) := ⟨x.f0.toNat, by omega⟩
  refine ⟨by rw [orS_length]; exact h.1, fun c hc => ?_⟩
  obtain ⟨a, ha, hlt, hb⟩ := h.2 c hc
  have hp : 2 ^ v < 65536 := Nat.lt_of_lt_of_le (Nat.pow_lt_pow_right (by omega) (show v < 16 by omega)) (by decide)
  by_cases e : c = u
  · subst e
    refine ⟨a ||| 2 ^ v, ?_, Nat.or_lt_two_pow (n := 16) hlt hp, fun i hi => ?_⟩
    · unfold orS
      rw [hu, hv, Int.toNat_natCast, ha, one_bit (by omega), bits_or hlt hp, rd, Int.toNat_natCast, List.getD_eq_getElem?_getD, List.getElem?_set_self (by rw [h.1]; exact hc)]
      rfl
    · rw [Nat.testBit_or, Bool.or_eq_true, hb i hi, Nat.testBit_two_pow, decide_eq_true_iff]
      constructor
      · rintro (⟨y, hy, h2⟩ | h2)
        · exact ⟨y, List.mem_append_left _ hy, h2⟩
        · exact ⟨x, by simp, hu, by rw [hv, h2]⟩
      · rintro ⟨y, hy, h2⟩
        rcases List.mem_append.1 hy with hy | hy
        · exact .inl ⟨y, hy, h2⟩
        · rw [List.mem_singleton.1 hy] at h2
          right
          have := h2.2
          omega
  · refine ⟨a, ?_, hlt, fun i hi => ?_⟩
    · unfold orS
      rw [hu, Int.toNat_natCast, ← ha]
      simp only [rd, Int.toNat_natCast, List.getD_eq_getElem?_getD]
      rw [List.getElem?_set_ne (fun g => e g.symm)]
    · rw [hb i hi]
      constructor
      · rintro ⟨y, hy, h2⟩
        exact ⟨y, List.mem_append_left _ hy, h2⟩
      · rintro ⟨y, hy, h2⟩
        rcases List.mem_append.1 hy with hy | hy
        · exact ⟨y, hy, h2⟩
        · rw [List.mem_singleton.1 hy] at h2
          have := h2.1
          omega
theorem says_mask : ∀ (l s : List S64) (m : List Int), Says m s → (∀ x ∈ l, (0 ≤ x.f0 ∧ x.f0 < 12) ∧ (0 ≤ x.f1 ∧ x.f1 < 12)) → Says (l.foldl orS m) (s ++ l)
  | [], s, m, h, _ => by simpa using h
  | x :: l, s, m, h, hin => by
    have := says_mask l (s ++ [x]) (orS m x) (says_or h (hin x List.mem_cons_self).1 (hin x List.mem_cons_self).2) (fun y hy => hin y (List.mem_cons_of_mem _ hy))
    simpa using this
theorem says_all (l : List S64) (hin : ∀ x ∈ l, (0 ≤ x.f0 ∧ x.f0 < 12) ∧ (0 ≤ x.f1 ∧ x.f1 < 12)) : Says (maskL l) l := by
  have := says_mask l [] _ says_zero hin
  rw [List.nil_append] at this
  exact this
/-- The numbers of the bits of a set. -/
def listB (z : Int) : List Int := (cntI 12).filter (bitI z)

theorem l03List_l0 (z : Int) : ∀ (m i k : Nat), i + m = 12 → m < k → spec_l03List.l0 k z ((cntI i).filter (bitI z)) (i : Int) = some (listB z) := by
  intro m
  induction m with
  | zero =>
    intro i k hi hk
    obtain ⟨k, rfl⟩ : ∃ m, k = m + 1 := ⟨k - 1, by omega⟩
    simp only [spec_l03List.l0]
    rw [if_neg (by omega), show i = 12 by omega]
    rfl
  | succ m ih =>
    intro i k hi hk
    obtain ⟨k, rfl⟩ : ∃ m, k = m + 1 := ⟨k - 1, by omega⟩
    have hc : cntI (i + 1) = cntI i ++ [(i : Int)] := by simp [cntI, List.range_succ]
    have I := ih (i + 1) k (by omega) (by omega)
    rw [hc, List.filter_append] at I
    have hlen : ((cntI i).filter (bitI z)).length ≤ 12 := Nat.le_trans (List.length_filter_le _ _) (by rw [cntI_length]; omega)
    simp only [spec_l03List.l0]
    rw [if_pos (by omega), if_pos (by rw [wu64 (by omega)]; omega), step64 (show i < 12 by omega) (by omega)]
    by_cases hb : Go.bits .and .u16 (shr .u16 z (IntKind.u64.wrap (i : Int))) 1 = 1
    · have : bitI z (i : Int) = true := decide_eq_true hb
      rw [if_pos hb, if_pos (by omega)]
      simpa [this] using I
    · have : bitI z (i : Int) = false := decide_eq_false hb
      rw [if_neg hb]
      simpa [this] using I
theorem l03List_is (z : Int) (k : Nat) (hk : 12 < k) : spec_l03List.f k z = some (listB z) := by
  unfold spec_l03List.f
  exact l03List_l0 z 12 0 k rfl hk

theorem all_is {n : Int} (hn : 0 ≤ n ∧ n ≤ 12) : spec_l03All.f n = some ((2 ^ n.toNat - 1 : Nat) : Int) := by
  have key : ∀ k : Nat, k < 13 → spec_l03All.f (k : Int) = some ((2 ^ k - 1 : Nat) : Int) := by decide
  have := key n.toNat (by omega)
  rwa [show ((n.toNat : Nat) : Int) = n by omega] at this

/-- Does a list come before another one? -/
def beforeP : List Int → List Int → Bool
  | [], [] => false
  | [], _ :: _ => true
  | _ :: _, [] => false
  | x :: a, y :: b => if x = y then beforeP a b else decide (x < y)

theorem before_l0 (a b : List Int) (ha : a.length ≤ 1048576) (hb : b.length ≤ 1048576) : ∀ (ra rb : List Int) (p k : Nat), a.drop p = ra → b.drop p = rb → a.length = p + ra.length → b.length = p + rb.length → 2 * ra.length + 2 < k → spec_l03Before.l0 k a b (p : Int) = some (beforeP ra rb)
  | [], [], p, k, hda, hdb, hla, hlb, hk => by
    obtain ⟨k, rfl⟩ : ∃ m, k = m + 1 + 1 := ⟨k - 2, by omega⟩
    simp only [List.length_nil] at hla hlb
    simp only [spec_l03Before.l0, spec_l03Before.j1, beforeP]
    rw [if_neg (by omega), if_neg (by simp), decide_eq_false (by omega)]
  | [], y :: rb, p, k, hda, hdb, hla, hlb, hk => by
    obtain ⟨k, rfl⟩ : ∃ m, k = m + 1 + 1 := ⟨k - 2, by omega⟩
    simp only [List.length_nil, List.length_cons] at hla hlb
    simp only [spec_l03Before.l0, spec_l03Before.j1, beforeP]
    rw [if_neg (by omega), if_neg (by simp), decide_eq_true (by omega)]
  | x :: ra, [], p, k, hda, hdb, hla, hlb, hk => by
    obtain ⟨k, rfl⟩ : ∃ m, k = m + 1 + 1 := ⟨k - 2, by omega⟩
    simp only [List.length_nil, List.length_cons] at hla hlb
    have hd : decide ((p : Int) < (b.length : Int)) = false := decide_eq_false (by omega)
    simp only [spec_l03Before.l0, spec_l03Before.j1, beforeP, hd]
    rw [if_pos (by omega), if_neg (by simp), decide_eq_false (by omega)]
  | x :: ra, y :: rb, p, k, hda, hdb, hla, hlb, hk => by
    obtain ⟨hp, hda', hx⟩ := of_drop hda
    obtain ⟨hp2, hdb', hy⟩ := of_drop hdb
    simp only [List.length_cons] at hla hlb hk
    obtain ⟨k, rfl⟩ : ∃ m, k = m + 1 + 1 := ⟨k - 2, by omega⟩
    have hd : decide ((p : Int) < (b.length : Int)) = true := decide_eq_true (by omega)
    simp only [spec_l03Before.l0, spec_l03Before.j1, beforeP, hd, rd, hx, hy]
    rw [if_pos (by omega), if_pos trivial, if_pos (by omega), if_pos (by omega), if_pos (by omega)]
    by_cases e : x = y
    · rw [if_pos e, if_pos e, step64 hp (by omega)]
      exact before_l0 a b ha hb ra rb (p + 1) k hda' hdb' (by omega) (by omega) (by omega)
    · rw [if_neg e, if_neg e]
theorem before_is (a b : List Int) (ha : a.length ≤ 1048576) (hb : b.length ≤ 1048576) (k : Nat) (hk : 2 * a.length + 2 < k) : spec_l03Before.f k a b = some (beforeP a b) := by
  unfold spec_l03Before.f
  exact before_l0 a b ha hb a b 0 k rfl rfl (by simp) (by simp) hk

/-- The better of a list and a set's. -/
def fewB (m : List Int) (z : Nat) (best : List Int) (x : Nat) : List Int := if (listB (x : Int)).length > best.length ∨ (listB (x : Int)).length = best.length ∧ beforeP (listB (x : Int)) best = false then best else if spec_l03Locked.f 20 m (Go.bits .andNot .u16 (z : Int) (x : Int)) = some 0 then listB (x : Int) else best
def fewR (m : List Int) (z : Nat) : List Int := (List.range (z + 1)).foldl (fewB m z) (listB (z : Int))
def spec_FewestSlipped.f (k : Nat) (a0 : Int) (l1 : List S64) : Option (List Int × Int) := (spec_l03Asked.f k a0 l1 true).bind fun c => if c = 0 then (if (l1.length ≤ 1048576 ∧ ∀ x ∈ l1, (0 ≤ x.f0 ∧ x.f0 < 12) ∧ (0 ≤ x.f1 ∧ x.f1 < 12)) ∧ (0 ≤ a0 ∧ a0 ≤ 12) ∧ ∀ x ∈ List.range (2 ^ a0.toNat - 1 + 1), (spec_l03Locked.f 20 (maskL l1) (Go.bits .andNot .u16 ((2 ^ a0.toNat - 1 : Nat) : Int) (x : Int))).isSome = true then some (fewR (maskL l1) (2 ^ a0.toNat - 1), 0) else none) else some ([], c)
theorem spec_FewestSlipped.mono : ∀ a0 a1 k, LeO (spec_FewestSlipped.f k a0 a1) (spec_FewestSlipped.f (k + 1) a0 a1) := by
  intro a0 a1 k
  unfold spec_FewestSlipped.f
  repeat' first
      | (with_reducible exact spec_l03Asked.mono _ _ _ _)
      | (with_reducible exact LeO.refl _)
      | (with_reducible exact LeO.none _)
      | (with_reducible refine LeO.ite ?_ ?_)
      | (with_reducible refine LeO.bind ?_ (fun _ => ?_))
      | exact spec_l03Asked.mono _ _ _ _
      | exact LeO.none _
      | refine LeO.ite ?_ ?_
      | refine LeO.bind ?_ (fun _ => ?_)
theorem range_drop {N x : Nat} (h : x < N) : (List.range N).drop x = x :: (List.range N).drop (x + 1) := by
  rw [List.drop_eq_getElem_cons (by simpa using h)]
  simp
theorem listB_len (x : Int) : (listB x).length ≤ 12 := Nat.le_trans (List.length_filter_le _ _) (by rw [cntI_length]; omega)
theorem fewB_len (m : List Int) (z : Nat) (best : List Int) (x : Nat) (h : best.length ≤ 12) : (fewB m z best x).length ≤ 12 := by
  unfold fewB
  split
  · exact h
  · split
    · exact listB_len _
    · exact h
set_option maxHeartbeats 8000000 in
set_option maxRecDepth 100000 in
theorem spec_FewestSlipped.calls (k : Nat) (a0 : Int) (A1 : Option Addr) (c1 : Nat) (l1 : List (S64)) (r1 : List Int) (r2 : Int) (w : World) (hr1 : Kd.C k64 w A1 l1.length l1) (hc1 : l1.length ≤ c1) (h : spec_FewestSlipped.f k a0 l1 = some (r1, r2)) :
    Calls Try.prog 49 #[.int .i64 a0, .slice A1 l1.length c1] w fun e w' => ∃ v0_ : Value, e = .returned (.tuple #[v0_, .int .i64 r2]) ∧ Kd.R (Kd.int .i64) 2 w' w.heap.size (fun _ => True) v0_ r1 ∧ Below w.heap.size w w' := by
  unfold spec_FewestSlipped.f at h
  replace h := Option.bind_eq_some_iff.mp h
  obtain ⟨c, hc, h⟩ := h
  have has : Aside0 (∀ W, Below w.heap.size w W → Calls Try.prog 51 #[.int .i64 a0, .slice A1 l1.length c1, .bool true] W fun e w' => e = .returned (.int .i64 c) ∧ Below W.heap.size W w') := ⟨fun W hw => spec_l03Asked.calls k a0 A1 c1 l1 true c W (Kd.C_below hr1 hw) hc1 hc⟩
  have HB := Aside0.mk (Below.refl w.heap.size w)
  by_cases hc0 : c = 0
  · rw [if_pos hc0] at h
    by_cases hg : (l1.length ≤ 1048576 ∧ ∀ x ∈ l1, (0 ≤ x.f0 ∧ x.f0 < 12) ∧ (0 ≤ x.f1 ∧ x.f1 < 12)) ∧ (0 ≤ a0 ∧ a0 ≤ 12) ∧ ∀ x ∈ List.range (2 ^ a0.toNat - 1 + 1), (spec_l03Locked.f 20 (maskL l1) (Go.bits .andNot .u16 ((2 ^ a0.toNat - 1 : Nat) : Int) (x : Int))).isSome = true
    · rw [if_pos hg] at h
      have hz := all_is hg.2.1
      have hzl : 2 ^ a0.toNat - 1 < 4096 := by
        have h1 : 2 ^ a0.toNat ≤ 2 ^ 12 := Nat.pow_le_pow_right (by omega) (by omega)
        have h2 : (2 : Nat) ^ 12 = 4096 := by decide
        omega
      obtain ⟨z, hzz⟩ : ∃ z, z = 2 ^ a0.toNat - 1 := ⟨_, rfl⟩
      rw [← hzz] at hz hzl hg h
      simp only [Option.some.injEq, Prod.mk.injEq] at h
      obtain ⟨rfl, rfl⟩ := h
      obtain ⟨m0, m1, m2, m3, m4, m5, m6, m7, m8, m9, m10, m11, hml⟩ := maskL_form l1
      have hov : Aside0 (∀ W, Below w.heap.size w W → Calls Try.prog 53 #[.slice A1 l1.length c1] W fun e w' => e = .returned (.agg #[.int .u16 m0, .int .u16 m1, .int .u16 m2, .int .u16 m3, .int .u16 m4, .int .u16 m5, .int .u16 m6, .int .u16 m7, .int .u16 m8, .int .u16 m9, .int .u16 m10, .int .u16 m11]) ∧ Below W.heap.size W w') := ⟨fun W hw => by
        have := spec_l03Over.calls A1 c1 l1 W (Kd.C_below hr1 hw) hc1 (by unfold spec_l03Over.f; rw [if_pos hg.1])
        rw [hml] at this
        exact this⟩
      have hal : Aside0 (∀ W, Calls Try.prog 68 #[.int .i64 a0] W fun e w' => e = .returned (.int .u16 (z : Int)) ∧ Drawn0 W w') := ⟨fun W => spec_l03All.calls a0 z W hz⟩
      have hfr : Aside0 (∀ W p s u, W.heap[p]? = some (.cells #[.int .u16 m0, .int .u16 m1, .int .u16 m2, .int .u16 m3, .int .u16 m4, .int .u16 m5, .int .u16 m6, .int .u16 m7, .int .u16 m8, .int .u16 m9, .int .u16 m10, .int .u16 m11] 59 (0, 0)) → spec_l03Locked.f 20 (maskL l1) s = some u → Calls Try.prog 73 #[.pointer (some ⟨p, 0, none⟩), .int .u16 s] W fun e w' => e = .returned (.int .u16 u) ∧ Below W.heap.size W w') := ⟨fun W p s u hb hu => spec_l03Locked.calls 20 p (maskL l1) s u W (by rw [hml]; exact hb) hu⟩
      have hli : Aside0 (∀ W u, Calls Try.prog 54 #[.int .u16 u] W fun e w' => ∃ v0_ : Value, e = .returned (v0_) ∧ Kd.R (Kd.int .i64) 2 w' W.heap.size (fun _ => True) v0_ (listB u) ∧ Below W.heap.size W w') := ⟨fun W u => spec_l03List.calls 13 u (listB u) W (l03List_is u 13 (by omega))⟩
      have hbf : Aside0 (∀ W A c A' c' (a b : List Int), a.length ≤ 12 → b.length ≤ 12 → Kd.C (Kd.int .i64) W A a.length a → a.length ≤ c → Kd.C (Kd.int .i64) W A' b.length b → b.length ≤ c' → Calls Try.prog 82 #[.slice A a.length c, .slice A' b.length c'] W fun e w' => e = .returned (.bool (beforeP a b)) ∧ Drawn0 W w') := ⟨fun W A c A' c' a b ha hb h1 h2 h3 h4 => spec_l03Before.calls 50 A c a A' c' b _ W h1 h2 h3 h4 (before_is a b (by omega) (by omega) 50 (by omega))⟩
      have HG := Aside0.mk hg.2.2
      have HZ := Aside0.mk hzl
      subst hc0
      clear hr1 hc1 hc hml hg hz hzz hzl
      go_enter Try.func49, Try.ntmps49
      go_wp2_with (first | (go_at_call 51; refine (has.out _ HB.out).mono ?_; rintro e w2 ⟨rfl, hb2⟩; have HB2 := Aside0.mk (HB.out.trans (hb2.mono HB.out.size)); clear hb2) | (go_at_call 53; refine (hov.out _ HB2.out).mono ?_; rintro e w3 ⟨rfl, hb3⟩; have HB3 := Aside0.mk (below_alloc (HB2.out.trans (hb3.mono HB2.out.size)) (.cells #[.int .u16 m0, .int .u16 m1, .int .u16 m2, .int .u16 m3, .int .u16 m4, .int .u16 m5, .int .u16 m6, .int .u16 m7, .int .u16 m8, .int .u16 m9, .int .u16 m10, .int .u16 m11] 59)); have HC3 := Aside0.mk (blk_new w3 (.cells #[.int .u16 m0, .int .u16 m1, .int .u16 m2, .int .u16 m3, .int .u16 m4, .int .u16 m5, .int .u16 m6, .int .u16 m7, .int .u16 m8, .int .u16 m9, .int .u16 m10, .int .u16 m11] 59)); clear hb3) | (go_at_call 68; refine (hal.out _).mono ?_; rintro e w4 ⟨rfl, hd⟩; have HB4 := Aside0.mk (HB3.out.trans (hd.below.mono HB3.out.size)); have HC4 := Aside0.mk ((hd.below.block _ (blk_lt HC3.out)).trans HC3.out); clear hd) | (go_at_call 54; refine (hli.out _ _).mono ?_; rintro e w5 ⟨v5, rfl, hv5, hb5⟩; have HB5 := Aside0.mk (HB4.out.trans (hb5.mono HB4.out.size)); have HC5 := Aside0.mk ((hb5.block _ (blk_lt HC4.out)).trans HC4.out); have HO5 := Aside0.mk (Kd.R_lower hv5 HB4.out.size); clear hb5 hv5))
      clear HB2 HB3 HB4 HC3 HC4 has hov hal HB
      generalize w3.heap.size = p at *
      go_loopg [9, 10] (z + 1) (fun gk v9 v10 w' => ∃ (x : Nat) (best : List Int), v10 = .int .u16 x ∧ Aside0 (x + gk = z + 1) ∧ Aside0 (best.length ≤ 12 ∧ fewR (maskL l1) z = ((List.range (z + 1)).drop x).foldl (fewB (maskL l1) z) best) ∧ Aside0 (Kd.R (Kd.int .i64) 2 w' w.heap.size (fun _ => True) v9 best) ∧ Aside0 (w'.heap[p]? = some (.cells #[.int .u16 m0, .int .u16 m1, .int .u16 m2, .int .u16 m3, .int .u16 m4, .int .u16 m5, .int .u16 m6, .int .u16 m7, .int .u16 m8, .int .u16 m9, .int .u16 m10, .int .u16 m11] 59 (0, 0))) ∧ Aside0 (Below w.heap.size w w'))
      case atStart => exact ⟨0, listB (z : Int), rfl, ⟨by omega⟩, ⟨listB_len _, rfl⟩, HO5, HC5, HB5⟩
      case round =>
        clear HB5 HC5 HO5
        obtain ⟨x, best, rfl, HK, HS, HO, HC, HB⟩ := hrel
        by_cases c3 : x ≤ z
        · have c3b : decide ((x : Int) ≤ (z : Int)) = true := decide_eq_true (by omega)
          have c3n : decide (x ≤ z) = true := decide_eq_true c3
          have hx16 : x < 4096 := by have := HZ.out; omega
          have HX : Aside0 (IntKind.u16.wrap ((x : Int) + 1) = ((x + 1 : Nat) : Int)) := ⟨by
            have := wu16 (a := x + 1) (by omega)
            rwa [Int.natCast_add] at this⟩
          have HX2 : Aside0 (((x : Int) + 1) % 65536 = ((x + 1 : Nat) : Int)) := ⟨by omega⟩
          have hdr := range_drop (show x < z + 1 by omega)
          have HS2 : Aside0 (fewR (maskL l1) z = ((List.range (z + 1)).drop (x + 1)).foldl (fewB (maskL l1) z) (fewB (maskL l1) z best x)) := ⟨by rw [HS.out.2, hdr, List.foldl_cons]⟩
          have HL2 : Aside0 ((fewB (maskL l1) z best x).length ≤ 12) := ⟨fewB_len _ _ _ _ HS.out.1⟩
          obtain ⟨u, hu⟩ : ∃ u, spec_l03Locked.f 20 (maskL l1) (Go.bits .andNot .u16 (z : Int) (x : Int)) = some u := Option.isSome_iff_exists.1 (HG.out x (List.mem_range.2 (by omega)))
          have HU := Aside0.mk hu
          obtain ⟨y, hy⟩ : ∃ y, y = listB (x : Int) := ⟨_, rfl⟩
          have HY := Aside0.mk hy
          have hyl : y.length ≤ 12 := by rw [hy]; exact listB_len _
          have hfw : fewB (maskL l1) z best x = if y.length > best.length ∨ y.length = best.length ∧ beforeP y best = false then best else if u = 0 then y else best := by
            unfold fewB
            rw [← hy, hu]
            simp only [Option.some.injEq]
          obtain ⟨A9, c9, rfl, hc9, hr9⟩ := Kd.R_reads HO.out
          have hbl := HS.out.1
          have HR9 := Aside0.mk (And.intro hr9 hc9)
          have HLL := Aside0.mk (And.intro hyl hbl)
          obtain ⟨n1, hn1⟩ : ∃ n, n = y.length := ⟨_, rfl⟩
          obtain ⟨n2, hn2⟩ : ∃ n, n = best.length := ⟨_, rfl⟩
          rw [← hn1, ← hn2] at hfw
          have HN := Aside0.mk (And.intro hn1 hn2)
          rw [← hn2]
          clear hy hyl hu hc9 hr9 hbl hdr hn1 hn2
          have HFW := Aside0.mk hfw
          clear hfw
          by_cases g1 : n2 < n1
          · have g1b : decide ((n2 : Int) < (n1 : Int)) = true := decide_eq_true (by omega)
            have g1n : decide (n2 < n1) = true := decide_eq_true g1
            have HE : Aside0 (fewB (maskL l1) z best x = best) := ⟨by rw [HFW.out, if_pos (.inl g1)]⟩
            go_wp2_with (first | (go_at_call 54; refine (hli.out _ _).mono ?_; rintro e w6 ⟨v6, rfl, hv6, hb6⟩; rw [← HY.out] at hv6; obtain ⟨A2, c2, rfl, hc2, hr2⟩ := Kd.R_reads hv6; have HR2 := Aside0.mk (And.intro hr2 hc2); rw [← HN.out.1] at hv6 ⊢; have HB6 := Aside0.mk (HB.out.trans (hb6.mono HB.out.size)); have HC6 := Aside0.mk ((hb6.block _ (blk_lt HC.out)).trans HC.out); have HO6 := Aside0.mk (Kd.R_below HO.out hb6); have HV6 := Aside0.mk (Kd.R_lower hv6 HB.out.size); have HR96 := Aside0.mk (Kd.C_below HR9.out.1 hb6); clear hv6 hb6 hc2 hr2))
            go_roundg (gk - 1)
            case measure => have := HK.out; omega
            case rel => exact ⟨x + 1, fewB (maskL l1) z best x, by first | rfl | rw [HX.out] | rw [HX2.out], ⟨by have := HK.out; omega⟩, ⟨HL2.out, HS2.out⟩, ⟨by rw [HE.out]; have h_ := HO6.out; rw [← HN.out.2] at h_; exact h_⟩, HC6, HB6⟩
          · have g1b : decide ((n2 : Int) < (n1 : Int)) = false := decide_eq_false (by omega)
            have g1n : decide (n2 < n1) = false := decide_eq_false g1
            by_cases g2 : n1 = n2
            · have g2b : ((n1 : Int) == (n2 : Int)) = true := beq_iff_eq.mpr (by omega)
              have g2n : (n1 == n2) = true := beq_iff_eq.mpr g2
              have g2d : decide (n1 = n2) = true := decide_eq_true g2
              have HG2 := Aside0.mk g2
              clear g2
              cases hbb : beforeP y best with
              | false =>
                have HE : Aside0 (fewB (maskL l1) z best x = best) := ⟨by rw [HFW.out, if_pos (.inr ⟨HG2.out, hbb⟩)]⟩
                have HBB := Aside0.mk hbb
                clear hbb
                go_wp2_with (first | (go_at_call 54; refine (hli.out _ _).mono ?_; rintro e w6 ⟨v6, rfl, hv6, hb6⟩; rw [← HY.out] at hv6; obtain ⟨A2, c2, rfl, hc2, hr2⟩ := Kd.R_reads hv6; have HR2 := Aside0.mk (And.intro hr2 hc2); rw [← HN.out.1] at hv6 ⊢; have HB6 := Aside0.mk (HB.out.trans (hb6.mono HB.out.size)); have HC6 := Aside0.mk ((hb6.block _ (blk_lt HC.out)).trans HC.out); have HO6 := Aside0.mk (Kd.R_below HO.out hb6); have HV6 := Aside0.mk (Kd.R_lower hv6 HB.out.size); have HR96 := Aside0.mk (Kd.C_below HR9.out.1 hb6); clear hv6 hb6 hc2 hr2) | (go_at_call 82; have hbq := hbf.out w6 A2 c2 A9 c9 y best HLL.out.1 HLL.out.2 HR2.out.1 HR2.out.2 HR96.out HR9.out.2; rw [← HN.out.1, ← HN.out.2, HBB.out] at hbq; refine hbq.mono ?_; rintro e w7 ⟨rfl, hd⟩; clear hbq; have HB7 := Aside0.mk (HB6.out.trans (hd.below.mono HB6.out.size)); have HC7 := Aside0.mk ((hd.below.block _ (blk_lt HC6.out)).trans HC6.out); have HO7 := Aside0.mk (Kd.R_below HO6.out hd.below); have HV7 := Aside0.mk (Kd.R_below HV6.out hd.below); clear hd))
                go_roundg (gk - 1)
                case measure => have := HK.out; omega
                case rel => exact ⟨x + 1, fewB (maskL l1) z best x, by first | rfl | rw [HX.out] | rw [HX2.out], ⟨by have := HK.out; omega⟩, ⟨HL2.out, HS2.out⟩, ⟨by rw [HE.out]; have h_ := HO7.out; rw [← HN.out.2] at h_; exact h_⟩, HC7, HB7⟩
              | true =>
                have HBB := Aside0.mk hbb
                by_cases g3 : u = 0
                · have HE : Aside0 (fewB (maskL l1) z best x = y) := ⟨by rw [HFW.out, if_neg (fun h => by rcases h with h | h; exact g1 h; rw [hbb] at h; cases h.2), if_pos g3]⟩
                  have g3b : (u == 0) = true := beq_iff_eq.mpr g3
                  clear g3 hbb
                  go_wp2_with (first | (go_at_call 54; refine (hli.out _ _).mono ?_; rintro e w6 ⟨v6, rfl, hv6, hb6⟩; rw [← HY.out] at hv6; obtain ⟨A2, c2, rfl, hc2, hr2⟩ := Kd.R_reads hv6; have HR2 := Aside0.mk (And.intro hr2 hc2); rw [← HN.out.1] at hv6 ⊢; have HB6 := Aside0.mk (HB.out.trans (hb6.mono HB.out.size)); have HC6 := Aside0.mk ((hb6.block _ (blk_lt HC.out)).trans HC.out); have HO6 := Aside0.mk (Kd.R_below HO.out hb6); have HV6 := Aside0.mk (Kd.R_lower hv6 HB.out.size); have HR96 := Aside0.mk (Kd.C_below HR9.out.1 hb6); clear hv6 hb6 hc2 hr2) | (go_at_call 82; have hbq := hbf.out w6 A2 c2 A9 c9 y best HLL.out.1 HLL.out.2 HR2.out.1 HR2.out.2 HR96.out HR9.out.2; rw [← HN.out.1, ← HN.out.2, HBB.out] at hbq; refine hbq.mono ?_; rintro e w7 ⟨rfl, hd⟩; clear hbq; have HB7 := Aside0.mk (HB6.out.trans (hd.below.mono HB6.out.size)); have HC7 := Aside0.mk ((hd.below.block _ (blk_lt HC6.out)).trans HC6.out); have HO7 := Aside0.mk (Kd.R_below HO6.out hd.below); have HV7 := Aside0.mk (Kd.R_below HV6.out hd.below); clear hd) | (go_at_call 73; refine (hfr.out _ _ _ _ HC7.out HU.out).mono ?_; rintro e w8 ⟨rfl, hb8⟩; have HB8 := Aside0.mk (HB7.out.trans (hb8.mono HB7.out.size)); have HC8 := Aside0.mk ((hb8.block _ (blk_lt HC7.out)).trans HC7.out); have HO8 := Aside0.mk (Kd.R_below HO7.out hb8); have HV8 := Aside0.mk (Kd.R_below HV7.out hb8); clear hb8))
                  go_roundg (gk - 1)
                  case measure => have := HK.out; omega
                  case rel => exact ⟨x + 1, fewB (maskL l1) z best x, by first | rfl | rw [HX.out] | rw [HX2.out], ⟨by have := HK.out; omega⟩, ⟨HL2.out, HS2.out⟩, ⟨by rw [HE.out]; exact HV8.out⟩, HC8, HB8⟩
                · have HE : Aside0 (fewB (maskL l1) z best x = best) := ⟨by rw [HFW.out, if_neg (fun h => by rcases h with h | h; exact g1 h; rw [hbb] at h; cases h.2), if_neg g3]⟩
                  have g3b : (u == 0) = false := beq_eq_false_iff_ne.mpr g3
                  clear g3 hbb
                  go_wp2_with (first | (go_at_call 54; refine (hli.out _ _).mono ?_; rintro e w6 ⟨v6, rfl, hv6, hb6⟩; rw [← HY.out] at hv6; obtain ⟨A2, c2, rfl, hc2, hr2⟩ := Kd.R_reads hv6; have HR2 := Aside0.mk (And.intro hr2 hc2); rw [← HN.out.1] at hv6 ⊢; have HB6 := Aside0.mk (HB.out.trans (hb6.mono HB.out.size)); have HC6 := Aside0.mk ((hb6.block _ (blk_lt HC.out)).trans HC.out); have HO6 := Aside0.mk (Kd.R_below HO.out hb6); have HV6 := Aside0.mk (Kd.R_lower hv6 HB.out.size); have HR96 := Aside0.mk (Kd.C_below HR9.out.1 hb6); clear hv6 hb6 hc2 hr2) | (go_at_call 82; have hbq := hbf.out w6 A2 c2 A9 c9 y best HLL.out.1 HLL.out.2 HR2.out.1 HR2.out.2 HR96.out HR9.out.2; rw [← HN.out.1, ← HN.out.2, HBB.out] at hbq; refine hbq.mono ?_; rintro e w7 ⟨rfl, hd⟩; clear hbq; have HB7 := Aside0.mk (HB6.out.trans (hd.below.mono HB6.out.size)); have HC7 := Aside0.mk ((hd.below.block _ (blk_lt HC6.out)).trans HC6.out); have HO7 := Aside0.mk (Kd.R_below HO6.out hd.below); have HV7 := Aside0.mk (Kd.R_below HV6.out hd.below); clear hd) | (go_at_call 73; refine (hfr.out _ _ _ _ HC7.out HU.out).mono ?_; rintro e w8 ⟨rfl, hb8⟩; have HB8 := Aside0.mk (HB7.out.trans (hb8.mono HB7.out.size)); have HC8 := Aside0.mk ((hb8.block _ (blk_lt HC7.out)).trans HC7.out); have HO8 := Aside0.mk (Kd.R_below HO7.out hb8); have HV8 := Aside0.mk (Kd.R_below HV7.out hb8); clear hb8))
                  go_roundg (gk - 1)
                  case measure => have := HK.out; omega
                  case rel => exact ⟨x + 1, fewB (maskL l1) z best x, by first | rfl | rw [HX.out] | rw [HX2.out], ⟨by have := HK.out; omega⟩, ⟨HL2.out, HS2.out⟩, ⟨by rw [HE.out]; have h_ := HO8.out; rw [← HN.out.2] at h_; exact h_⟩, HC8, HB8⟩
            · have g2b : ((n1 : Int) == (n2 : Int)) = false := beq_eq_false_iff_ne.mpr (by omega)
              have g2n : (n1 == n2) = false := beq_eq_false_iff_ne.mpr g2
              have g2d : decide (n1 = n2) = false := decide_eq_false g2
              by_cases g3 : u = 0
              · have HE : Aside0 (fewB (maskL l1) z best x = y) := ⟨by rw [HFW.out, if_neg (fun h => by rcases h with h | h; exact g1 h; exact g2 h.1), if_pos g3]⟩
                have g3b : (u == 0) = true := beq_iff_eq.mpr g3
                clear g3 g2
                go_wp2_with (first | (go_at_call 54; refine (hli.out _ _).mono ?_; rintro e w6 ⟨v6, rfl, hv6, hb6⟩; rw [← HY.out] at hv6; obtain ⟨A2, c2, rfl, hc2, hr2⟩ := Kd.R_reads hv6; have HR2 := Aside0.mk (And.intro hr2 hc2); rw [← HN.out.1] at hv6 ⊢; have HB6 := Aside0.mk (HB.out.trans (hb6.mono HB.out.size)); have HC6 := Aside0.mk ((hb6.block _ (blk_lt HC.out)).trans HC.out); have HO6 := Aside0.mk (Kd.R_below HO.out hb6); have HV6 := Aside0.mk (Kd.R_lower hv6 HB.out.size); have HR96 := Aside0.mk (Kd.C_below HR9.out.1 hb6); clear hv6 hb6 hc2 hr2) | (go_at_call 73; refine (hfr.out _ _ _ _ HC6.out HU.out).mono ?_; rintro e w8 ⟨rfl, hb8⟩; have HB8 := Aside0.mk (HB6.out.trans (hb8.mono HB6.out.size)); have HC8 := Aside0.mk ((hb8.block _ (blk_lt HC6.out)).trans HC6.out); have HO8 := Aside0.mk (Kd.R_below HO6.out hb8); have HV8 := Aside0.mk (Kd.R_below HV6.out hb8); clear hb8))
                go_roundg (gk - 1)
                case measure => have := HK.out; omega
                case rel => exact ⟨x + 1, fewB (maskL l1) z best x, by first | rfl | rw [HX.out] | rw [HX2.out], ⟨by have := HK.out; omega⟩, ⟨HL2.out, HS2.out⟩, ⟨by rw [HE.out]; exact HV8.out⟩, HC8, HB8⟩
              · have HE : Aside0 (fewB (maskL l1) z best x = best) := ⟨by rw [HFW.out, if_neg (fun h => by rcases h with h | h; exact g1 h; exact g2 h.1), if_neg g3]⟩
                have g3b : (u == 0) = false := beq_eq_false_iff_ne.mpr g3
                clear g3 g2
                go_wp2_with (first | (go_at_call 54; refine (hli.out _ _).mono ?_; rintro e w6 ⟨v6, rfl, hv6, hb6⟩; rw [← HY.out] at hv6; obtain ⟨A2, c2, rfl, hc2, hr2⟩ := Kd.R_reads hv6; have HR2 := Aside0.mk (And.intro hr2 hc2); rw [← HN.out.1] at hv6 ⊢; have HB6 := Aside0.mk (HB.out.trans (hb6.mono HB.out.size)); have HC6 := Aside0.mk ((hb6.block _ (blk_lt HC.out)).trans HC.out); have HO6 := Aside0.mk (Kd.R_below HO.out hb6); have HV6 := Aside0.mk (Kd.R_lower hv6 HB.out.size); have HR96 := Aside0.mk (Kd.C_below HR9.out.1 hb6); clear hv6 hb6 hc2 hr2) | (go_at_call 73; refine (hfr.out _ _ _ _ HC6.out HU.out).mono ?_; rintro e w8 ⟨rfl, hb8⟩; have HB8 := Aside0.mk (HB6.out.trans (hb8.mono HB6.out.size)); have HC8 := Aside0.mk ((hb8.block _ (blk_lt HC6.out)).trans HC6.out); have HO8 := Aside0.mk (Kd.R_below HO6.out hb8); have HV8 := Aside0.mk (Kd.R_below HV6.out hb8); clear hb8))
                go_roundg (gk - 1)
                case measure => have := HK.out; omega
                case rel => exact ⟨x + 1, fewB (maskL l1) z best x, by first | rfl | rw [HX.out] | rw [HX2.out], ⟨by have := HK.out; omega⟩, ⟨HL2.out, HS2.out⟩, ⟨by rw [HE.out]; have h_ := HO8.out; rw [← HN.out.2] at h_; exact h_⟩, HC8, HB8⟩
        · have c3b : decide ((x : Int) ≤ (z : Int)) = false := decide_eq_false (by omega)
          have c3n : decide (x ≤ z) = false := decide_eq_false c3
          have HE : Aside0 (fewR (maskL l1) z = best) := ⟨by rw [HS.out.2, List.drop_eq_nil_of_le (by simp; omega)]; rfl⟩
          go_wp2
          exact bodyPost_ret (v := .tuple #[u9, .int .i64 0]) (by simp [results, Try.results49, go_sem]) rfl ⟨_, rfl, by rw [HE.out]; exact HO.out, HB.out⟩
    · rw [if_neg hg] at h; cases h
  · rw [if_neg hc0] at h
    simp only [Option.some.injEq, Prod.mk.injEq] at h
    obtain ⟨rfl, rfl⟩ := h
    have hcb : (c == 0) = false := beq_eq_false_iff_ne.mpr hc0
    have hcb' : (c != 0) = true := bne_iff_ne.mpr hc0
    clear hr1 hc1 hc hc0
    go_enter Try.func49, Try.ntmps49
    go_wp2_with (first | (go_at_call 51; refine (has.out _ HB.out).mono ?_; rintro e w2 ⟨rfl, hb2⟩; have HB2 := Aside0.mk (HB.out.trans (hb2.mono HB.out.size)); clear hb2))
    exact bodyPost_ret (v := .tuple #[.slice (some ⟨w2.heap.size, 0, none⟩) 0 0, .int .i64 c]) (by simp [results, Try.results49, go_sem]) rfl ⟨_, rfl, empty_lit HB2.out.size, below_alloc HB2.out _⟩

/-! ### impl_isChain: function 86 -/
def impl_isChain.f (a0 : Int) (a1 : Int) : Option (Bool) := if a1 ≥ 0 then (some (decide (a1 < a0))) else (some false)
set_option maxHeartbeats 8000000 in
set_option maxRecDepth 100000 in
theorem impl_isChain.calls (a0 : Int) (a1 : Int) (r : Bool) (w : World) (h : impl_isChain.f a0 a1 = some r) :
    Calls Try.prog 86 #[.int .i64 a0, .int .i64 a1] w fun e w' => e = .returned (.bool r) ∧ Drawn0 w w' := by
  have H : (if a1 ≥ 0 then (some (decide (a1 < a0))) else (some false)) = some r := h
  clear h
  by_cases c3 : a1 ≥ 0
  · rw [if_pos c3] at H
    have c3b0 : decide (0 ≤ a1) = true := decide_eq_true c3
    clear c3
    obtain rfl := Option.some.inj H
    go_enter Try.func86, Try.ntmps86
    go_wp2
    go_ret
    exact ⟨by first | rfl | (simp; done) | (simp [*]; done), by repeat (first | exact Drawn0.refl _ | apply Drawn0.step)⟩
  · rw [if_neg c3] at H
    have c3b0 : decide (0 ≤ a1) = false := decide_eq_false c3
    clear c3
    obtain rfl := Option.some.inj H
    go_enter Try.func86, Try.ntmps86
    go_wp2
    go_ret
    exact ⟨by first | rfl | (simp; done) | (simp [*]; done), by repeat (first | exact Drawn0.refl _ | apply Drawn0.step)⟩

/-! ### impl_Cover_116: function 116 -/
def impl_Cover_116.l0 : Nat → List (S64) → Int → Int → Int → Int → Option (Int)
  | 0, _, _, _, _, _ => none
  | k + 1, x0, x7, x8, x140000, x140001 => if x8 < x7 then (if 0 ≤ x8 then (if x8 < (x0.length : Int) then (if (x140000 == ((rd_T64 x0 x8).f0) && (x140001 == ((rd_T64 x0 x8).f1))) = true then (some x8) else (impl_Cover_116.l0 k x0 x7 (wrap64 (x8 + 1)) x140000 x140001)) else (none)) else (none)) else (some (-1))
def impl_Cover_116.f (k : Nat) (l0 : List (S64)) (a1_0 : Int) (a1_1 : Int) : Option (Int) := impl_Cover_116.l0 k l0 (l0.length : Int) 0 a1_0 a1_1
theorem impl_Cover_116.mono_l : ∀ k, (∀ y0 y1 y2 y3 y4, LeO (impl_Cover_116.l0 k y0 y1 y2 y3 y4) (impl_Cover_116.l0 (k + 1) y0 y1 y2 y3 y4))
  | 0 => fun _ _ _ _ _ r h => by simp [impl_Cover_116.l0] at h
  | k + 1 => by
    have ih0 := impl_Cover_116.mono_l k
    · intro y0 y1 y2 y3 y4
      unfold impl_Cover_116.l0
      repeat' first
      | (with_reducible exact ih0 _ _ _ _ _)
      | (with_reducible exact LeO.refl _)
      | (with_reducible exact LeO.none _)
      | (with_reducible refine LeO.ite ?_ ?_)
      | (with_reducible refine LeO.bind ?_ (fun _ => ?_))
      | exact ih0 _ _ _ _ _
      | exact LeO.none _
      | refine LeO.ite ?_ ?_
      | refine LeO.bind ?_ (fun _ => ?_)
theorem impl_Cover_116.mono : ∀ a0 a1 a2 k, LeO (impl_Cover_116.f k a0 a1 a2) (impl_Cover_116.f (k + 1) a0 a1 a2) := by
  intro a0 a1 a2 k
  have ih0 := impl_Cover_116.mono_l k
  unfold impl_Cover_116.f
  repeat' first
      | (with_reducible exact ih0 _ _ _ _ _)
      | (with_reducible exact LeO.refl _)
      | (with_reducible exact LeO.none _)
      | (with_reducible refine LeO.ite ?_ ?_)
      | (with_reducible refine LeO.bind ?_ (fun _ => ?_))
      | exact ih0 _ _ _ _ _
      | exact LeO.none _
      | refine LeO.ite ?_ ?_
      | refine LeO.bind ?_ (fun _ => ?_)
set_option maxHeartbeats 8000000 in
set_option maxRecDepth 100000 in
theorem impl_Cover_116.calls (k : Nat) (A0 : Option Addr) (c0 : Nat) (l0 : List (S64)) (a1_0 : Int) (a1_1 : Int) (r : Int) (w : World) (hr0 : Kd.C k64 w A0 l0.length l0) (hc0 : l0.length ≤ c0) (h : impl_Cover_116.f k l0 a1_0 a1_1 = some r) :
    Calls Try.prog 116 #[.slice A0 l0.length c0, .agg #[.int .i8 a1_0, .int .i8 a1_1]] w fun e w' => e = .returned (.int .i64 r) ∧ Below w.heap.size w w' := by
  have hu64 := Try.underlying64
  have HR0 := Aside0.mk hr0
  have HC0 := Aside0.mk hc0
  clear hr0 hc0
  have HB := Aside0.mk (Below.refl w.heap.size w)
  have H : (impl_Cover_116.l0 k l0 (l0.length : Int) 0 a1_0 a1_1) = some r := h
  clear h
  have H' := Aside0.mk H
  clear H
  go_enter Try.func116, Try.ntmps116
  go_wp2_with (first | ((with_reducible refine gate_dst (N := 3) rfl ?_); refine box_event ?hg (N := 3) ?hd (cs := #[.int .i8 a1_0, .int .i8 a1_1]) (t := 64) ?hr ?_; (case hd => rfl); (case hg => rfl); (case hr => first | (go_simp; done) | (go_simp; rfl)); intro gb139 hg w3 hbox hb; have n0_ := Aside0.mk (below_step (by repeat (first | (with_reducible first | exact HB.out | apply below_alloc | apply pw_below_drewN | apply below_drew1) | exact HB.out)) hb); have n1_ := Aside0.mk (hbox); have n2_ := Aside0.mk ((by rw [hg]; exact (below_size (by repeat (first | (with_reducible first | exact HB.out | apply below_alloc | apply pw_below_drewN | apply below_drew1) | exact HB.out))) : w.heap.size ≤ gb139)); have n3_ := Aside0.mk ((by rw [hg]; exact (below_size (by repeat (first | (with_reducible first | exact HB.out | apply below_alloc | apply pw_below_drewN | apply below_drew1) | exact HB.out))) : w.heap.size ≤ gb139)); clear HB; have HB := n0_; have BK139 := n1_; have GW139 := n2_; have GE139 := n3_; clear n0_ n1_ n2_ n3_; clear hb hbox hg))
  repeat (go_quiet (first | ((with_reducible refine gate_dst (N := 3) rfl ?_); refine box_event ?hg (N := 3) ?hd (cs := #[.int .i8 a1_0, .int .i8 a1_1]) (t := 64) ?hr ?_; (case hd => rfl); (case hg => rfl); (case hr => first | (go_simp; done) | (go_simp; rfl)); intro gb139 hg w3 hbox hb; have n0_ := Aside0.mk (below_step (by repeat (first | (with_reducible first | exact HB.out | apply below_alloc | apply pw_below_drewN | apply below_drew1) | exact HB.out)) hb); have n1_ := Aside0.mk (hbox); have n2_ := Aside0.mk ((by rw [hg]; exact (below_size (by repeat (first | (with_reducible first | exact HB.out | apply below_alloc | apply pw_below_drewN | apply below_drew1) | exact HB.out))) : w.heap.size ≤ gb139)); have n3_ := Aside0.mk ((by rw [hg]; exact (below_size (by repeat (first | (with_reducible first | exact HB.out | apply below_alloc | apply pw_below_drewN | apply below_drew1) | exact HB.out))) : w.heap.size ≤ gb139)); clear HB; have HB := n0_; have BK139 := n1_; have GW139 := n2_; have GE139 := n3_; clear n0_ n1_ n2_ n3_; clear hb hbox hg)); try go_wp2_with (first | ((with_reducible refine gate_dst (N := 3) rfl ?_); refine box_event ?hg (N := 3) ?hd (cs := #[.int .i8 a1_0, .int .i8 a1_1]) (t := 64) ?hr ?_; (case hd => rfl); (case hg => rfl); (case hr => first | (go_simp; done) | (go_simp; rfl)); intro gb139 hg w3 hbox hb; have n0_ := Aside0.mk (below_step (by repeat (first | (with_reducible first | exact HB.out | apply below_alloc | apply pw_below_drewN | apply below_drew1) | exact HB.out)) hb); have n1_ := Aside0.mk (hbox); have n2_ := Aside0.mk ((by rw [hg]; exact (below_size (by repeat (first | (with_reducible first | exact HB.out | apply below_alloc | apply pw_below_drewN | apply below_drew1) | exact HB.out))) : w.heap.size ≤ gb139)); have n3_ := Aside0.mk ((by rw [hg]; exact (below_size (by repeat (first | (with_reducible first | exact HB.out | apply below_alloc | apply pw_below_drewN | apply below_drew1) | exact HB.out))) : w.heap.size ≤ gb139)); clear HB; have HB := n0_; have BK139 := n1_; have GW139 := n2_; have GE139 := n3_; clear n0_ n1_ n2_ n3_; clear hb hbox hg)))
  go_loopg [8] k (fun kq v8 w' => ∃ (x8_1 : Int), v8 = .int .i64 x8_1 ∧ Aside0 (impl_Cover_116.l0 kq l0 (l0.length : Int) x8_1 a1_0 a1_1 = some r) ∧ Aside0 (kq ≤ k) ∧ Aside0 (w'.heap[gb139]? = some (.cells #[.int .i8 a1_0, .int .i8 a1_1] 64 (0, 0))) ∧ Aside0 (Below w.heap.size w w'))
  case atStart => exact ⟨(0), (by first | rfl | (simp; done) | (simp [*]; done)), H', ⟨Nat.le_refl _⟩, ⟨by (with_reducible repeat (first | refine blk_drewN ?_ _ | refine blk_drew ?_ | refine blk_alloc ?_ _)); exact BK139.out⟩, ⟨by repeat (first | (with_reducible first | exact HB.out | apply below_alloc | apply pw_below_drewN | apply below_drew1 | refine below_set ?_ GE139.out) | exact HB.out)⟩⟩
  case round =>
    clear H'
    try clear c1
    try clear p2
    obtain ⟨x8_1, rfl, HA, HK1, BK139, HB⟩ := hrel
    cases gk with
    | zero => exact absurd HA.out (by simp [impl_Cover_116.l0])
    | succ k1 =>
      have H := HA.out
      clear HA
      simp only [impl_Cover_116.l0] at H
      by_cases c4 : x8_1 < (l0.length : Int)
      · rw [if_pos c4] at H
        have c4b0 : decide (x8_1 < (l0.length : Int)) = true := decide_eq_true c4
        clear c4
        by_cases c5 : 0 ≤ x8_1
        · rw [if_pos c5] at H
          have c5b0 : decide (0 ≤ x8_1) = true := decide_eq_true c5
          clear c5
          by_cases c6 : x8_1 < (l0.length : Int)
          · rw [if_pos c6] at H
            have c6b0 : decide (x8_1 < (l0.length : Int)) = true := decide_eq_true c6
            clear c6
            by_cases c7 : (a1_0 == ((rd_T64 l0 x8_1).f0) && (a1_1 == ((rd_T64 l0 x8_1).f1))) = true
            · rw [if_pos c7] at H
              have c7b0 : (a1_0 == ((rd_T64 l0 x8_1).f0) && (a1_1 == ((rd_T64 l0 x8_1).f1))) = true := c7
              (try (have c7b1 : decide (a1_0 = ((rd_T64 l0 x8_1).f0) && (a1_1 == ((rd_T64 l0 x8_1).f1))) = true := by simpa using c7))
              (try (have c7b2 : (a1_0 == ((rd_T64 l0 x8_1).f0) && (a1_1 == ((rd_T64 l0 x8_1).f1))) = true := by simpa using c7))
              clear c7
              obtain rfl := Option.some.inj H
              have hcz8_0 : wr.cell? ⟨gb139, 0, none⟩ = some (.int .i8 a1_0) := (blk_cell BK139.out 0).trans rfl
              have hcz8_1 : wr.cell? ⟨gb139, 1, none⟩ = some (.int .i8 a1_1) := (blk_cell BK139.out 1).trans rfl
              have hfz8_0 := blk_frozen BK139.out 0
              have hfz8_1 := blk_frozen BK139.out 1
              have p140 : 0 ≤ (x8_1 : Int) := of_decide_eq_true (by first | (with_reducible assumption) | assumption)
              have q140 : x8_1 < (l0.length : Int) := of_decide_eq_true (by first | (with_reducible assumption) | assumption)
              obtain ⟨ad140, e140, hx140_0, hx140_1⟩ := at_T64 HR0.out x8_1 p140 q140
              cases e140
              replace hx140_0 := (HB.out.cell (World.block_lt_of_cell? w _ hx140_0)).trans hx140_0
              replace hx140_1 := (HB.out.cell (World.block_lt_of_cell? w _ hx140_1)).trans hx140_1
              replace p140 := eq_true p140
              replace q140 := eq_true q140
              go_wp2
              repeat (go_quiet (fail); try go_wp2)
              go_ret
              exact ⟨by first | rfl | (simp [errW_none, errW_some] <;> rfl) | (simp [*, errW_none, errW_some] <;> rfl), by repeat (first | (with_reducible first | exact HB.out | apply below_alloc | apply pw_below_drewN | apply below_drew1 | refine below_set ?_ GE139.out) | exact HB.out)⟩
            · rw [if_neg c7] at H
              have c7b0 : (a1_0 == ((rd_T64 l0 x8_1).f0) && (a1_1 == ((rd_T64 l0 x8_1).f1))) = false := by simpa using c7
              (try (have c7b1 : decide (a1_0 = ((rd_T64 l0 x8_1).f0) && (a1_1 == ((rd_T64 l0 x8_1).f1))) = false := by simpa using c7))
              (try (have c7b2 : (a1_0 == ((rd_T64 l0 x8_1).f0) && (a1_1 == ((rd_T64 l0 x8_1).f1))) = false := by simpa using c7))
              (try (have c7b3 : ¬ (a1_0 = ((rd_T64 l0 x8_1).f0) && (a1_1 == ((rd_T64 l0 x8_1).f1))) := by simpa using c7))
              clear c7
              have H' := Aside0.mk H
              clear H
              have hcz9_0 : wr.cell? ⟨gb139, 0, none⟩ = some (.int .i8 a1_0) := (blk_cell BK139.out 0).trans rfl
              have hcz9_1 : wr.cell? ⟨gb139, 1, none⟩ = some (.int .i8 a1_1) := (blk_cell BK139.out 1).trans rfl
              have hfz9_0 := blk_frozen BK139.out 0
              have hfz9_1 := blk_frozen BK139.out 1
              have p140 : 0 ≤ (x8_1 : Int) := of_decide_eq_true (by first | (with_reducible assumption) | assumption)
              have q140 : x8_1 < (l0.length : Int) := of_decide_eq_true (by first | (with_reducible assumption) | assumption)
              obtain ⟨ad140, e140, hx140_0, hx140_1⟩ := at_T64 HR0.out x8_1 p140 q140
              cases e140
              replace hx140_0 := (HB.out.cell (World.block_lt_of_cell? w _ hx140_0)).trans hx140_0
              replace hx140_1 := (HB.out.cell (World.block_lt_of_cell? w _ hx140_1)).trans hx140_1
              replace p140 := eq_true p140
              replace q140 := eq_true q140
              go_wp2
              repeat (go_quiet (fail); try go_wp2)
              go_roundg k1
              case measure => have := HK1.out; omega
              case rel => exact ⟨(wrap64 (x8_1 + 1)), (by first | rfl | (simp; done) | (simp [*]; done)), H', ⟨by have := HK1.out; omega⟩, ⟨by (with_reducible repeat (first | refine blk_drewN ?_ _ | refine blk_drew ?_ | refine blk_alloc ?_ _)); exact BK139.out⟩, ⟨by repeat (first | (with_reducible first | exact HB.out | apply below_alloc | apply pw_below_drewN | apply below_drew1 | refine below_set ?_ GE139.out) | exact HB.out)⟩⟩
          · rw [if_neg c6] at H
            exact absurd H (by simp)
        · rw [if_neg c5] at H
          exact absurd H (by simp)
      · rw [if_neg c4] at H
        have c4b0 : decide (x8_1 < (l0.length : Int)) = false := decide_eq_false c4
        clear c4
        obtain rfl := Option.some.inj H
        go_wp2
        repeat (go_quiet (fail); try go_wp2)
        go_ret
        exact ⟨by first | rfl | (simp [errW_none, errW_some] <;> rfl) | (simp [*, errW_none, errW_some] <;> rfl), by repeat (first | (with_reducible first | exact HB.out | apply below_alloc | apply pw_below_drewN | apply below_drew1 | refine below_set ?_ GE139.out) | exact HB.out)⟩

/-! ### impl_Cover_101: function 101 -/
def impl_Cover_101.f (k : Nat) (l0 : List (S64)) (a1_0 : Int) (a1_1 : Int) : Option (Bool) := (impl_Cover_116.f k l0 a1_0 a1_1).bind fun t142 => (some (decide (t142 ≥ 0)))
theorem impl_Cover_101.mono : ∀ a0 a1 a2 k, LeO (impl_Cover_101.f k a0 a1 a2) (impl_Cover_101.f (k + 1) a0 a1 a2) := by
  intro a0 a1 a2 k
  unfold impl_Cover_101.f
  repeat' first
      | (with_reducible exact impl_Cover_116.mono _ _ _ _)
      | (with_reducible exact LeO.refl _)
      | (with_reducible exact LeO.none _)
      | (with_reducible refine LeO.ite ?_ ?_)
      | (with_reducible refine LeO.bind ?_ (fun _ => ?_))
      | exact impl_Cover_116.mono _ _ _ _
      | exact LeO.none _
      | refine LeO.ite ?_ ?_
      | refine LeO.bind ?_ (fun _ => ?_)
set_option maxHeartbeats 8000000 in
set_option maxRecDepth 100000 in
theorem impl_Cover_101.calls (k : Nat) (A0 : Option Addr) (c0 : Nat) (l0 : List (S64)) (a1_0 : Int) (a1_1 : Int) (r : Bool) (w : World) (hr0 : Kd.C k64 w A0 l0.length l0) (hc0 : l0.length ≤ c0) (h : impl_Cover_101.f k l0 a1_0 a1_1 = some r) :
    Calls Try.prog 101 #[.slice A0 l0.length c0, .agg #[.int .i8 a1_0, .int .i8 a1_1]] w fun e w' => e = .returned (.bool r) ∧ Below w.heap.size w w' := by
  have hu64 := Try.underlying64
  have HR0 := Aside0.mk hr0
  have HC0 := Aside0.mk hc0
  clear hr0 hc0
  have HB := Aside0.mk (Below.refl w.heap.size w)
  have H : ((impl_Cover_116.f k l0 a1_0 a1_1).bind fun t142 => (some (decide (t142 ≥ 0)))) = some r := h
  clear h
  replace H := Option.bind_eq_some_iff.mp H
  obtain ⟨t142, A30, H⟩ := H
  replace H : (some (decide (t142 ≥ 0))) = some r := H
  have A3 := Aside0.mk A30
  clear A30
  obtain rfl := Option.some.inj H
  go_enter Try.func101, Try.ntmps101
  go_wp2_with (first | ((with_reducible refine gate_dst (N := 3) rfl ?_); refine box_event ?hg (N := 3) ?hd (cs := #[.int .i8 a1_0, .int .i8 a1_1]) (t := 64) ?hr ?_; (case hd => rfl); (case hg => rfl); (case hr => first | (go_simp; done) | (go_simp; rfl)); intro gb141 hg w4 hbox hb; have n0_ := Aside0.mk (below_step (by repeat (first | (with_reducible first | exact HB.out | apply below_alloc | apply pw_below_drewN | apply below_drew1) | exact HB.out)) hb); have n1_ := Aside0.mk (hbox); have n2_ := Aside0.mk ((by rw [hg]; exact (below_size (by repeat (first | (with_reducible first | exact HB.out | apply below_alloc | apply pw_below_drewN | apply below_drew1) | exact HB.out))) : w.heap.size ≤ gb141)); have n3_ := Aside0.mk ((by rw [hg]; exact (below_size (by repeat (first | (with_reducible first | exact HB.out | apply below_alloc | apply pw_below_drewN | apply below_drew1) | exact HB.out))) : w.heap.size ≤ gb141)); clear HB; have HB := n0_; have BK141 := n1_; have GW141 := n2_; have GE141 := n3_; clear n0_ n1_ n2_ n3_; clear hb hbox hg; have hcz5_0 : w4.cell? ⟨gb141, 0, none⟩ = some (.int .i8 a1_0) := (blk_cell BK141.out 0).trans rfl; have hcz5_1 : w4.cell? ⟨gb141, 1, none⟩ = some (.int .i8 a1_1) := (blk_cell BK141.out 1).trans rfl; have hfz5_0 := blk_frozen BK141.out 0; have hfz5_1 := blk_frozen BK141.out 1) | ((with_reducible refine gate_callee (f := 116) rfl ?_); refine goesL_ (some 7) rfl rfl Try.func116 (by kernel_rfl) rfl #[.slice A0 l0.length c0, .agg #[.int .i8 a1_0, .int .i8 a1_1]] rfl (by (try simp only [List.map_toArray, List.map_cons, List.map_nil]); first | done | rfl | (simp only [List.length_drop, List.length_take]; rfl)) ?_; (with_reducible refine (impl_Cover_116.calls k _ _ l0 a1_0 a1_1 t142 _ ?side1 ?side2 A3.out).mono ?_); (case side1 => repeat (first | exact (Kd.C_below HR0.out HB.out) | (with_reducible refine Kd.C_alloc ?_ _) | (with_reducible refine Kd.C_drewN ?_ _) | (with_reducible refine Kd.C_drew ?_))); (case side2 => exact HC0.out); rintro e w6 ⟨rfl, hb⟩; refine ⟨_, rfl, ?_⟩; have n0_ := Aside0.mk (blk_below (g := gb141) (o := .cells #[.int .i8 a1_0, .int .i8 a1_1] 64 (0, 0)) (by (with_reducible repeat (first | refine blk_drewN ?_ _ | refine blk_drew ?_ | refine blk_alloc ?_ _)); exact BK141.out) hb); have n1_ := Aside0.mk (below_step (by repeat (first | (with_reducible first | exact HB.out | apply below_alloc | apply pw_below_drewN | apply below_drew1 | refine below_set ?_ GE141.out) | exact HB.out)) hb); clear BK141; clear HB; have BK141 := n0_; have HB := n1_; clear n0_ n1_; (try clear hb); (try clear hb2); (try clear hk); (try clear hi)))
  go_ret
  exact ⟨by first | rfl | (simp [errW_none, errW_some] <;> rfl) | (simp [*, errW_none, errW_some] <;> rfl), by repeat (first | (with_reducible first | exact HB.out | apply below_alloc | apply pw_below_drewN | apply below_drew1 | refine below_set ?_ GE141.out) | exact HB.out)⟩

end Go.Proofs.Ytjcdgimldhodiaa.PFnExactFewestSlipped
