/- Printed by this session's plus.py out of the translation, some functions' texts being this session's own. -/
import Derived.Test.YtjcdgimldhodiaaPFnExactCanLeavex0
import Derived.Test.YtjcdgimldhodiaaPFnExactCanLeavex1
import Derived.Test.YtjcdgimldhodiaaPFnExactCanLeavex3
namespace Go.Proofs.Ytjcdgimldhodiaa.PFnExactCanLeave
open Go.RowKit Go.Proofs.YtjcdgimldhodiaaW.PrintWords Go.Proofs.YtjcdgimldhodiaaW.PrintLast Go.Proofs.YtjcdgimldhodiaaW.PrintMore
attribute [local go_sem] max2_int min2_int max_two min_two max_three min_three max_four min_four   -- for this text's walks alone
set_option linter.unusedVariables false
set_option linter.unusedSimpArgs false

attribute [local go_sem high] eqA64
/-! ### spec_l00Has: function 70 -/
def spec_l00Has.l0 : Nat → List Int → Int → Int → Option (Bool)
  | 0, _, _, _ => none
  | k + 1, x0, x1, x5 => if x5 < (x0.length : Int) then (if 0 ≤ x5 then (if (rd x0 x5) = x1 then (some true) else (spec_l00Has.l0 k x0 x1 (wrap64 (x5 + 1)))) else (none)) else (some false)
def spec_l00Has.f (k : Nat) (l0 : List Int) (a1 : Int) : Option (Bool) := spec_l00Has.l0 k l0 a1 0
theorem spec_l00Has.mono_l : ∀ k, (∀ y0 y1 y2, LeO (spec_l00Has.l0 k y0 y1 y2) (spec_l00Has.l0 (k + 1) y0 y1 y2))
  | 0 => fun _ _ _ r h => by simp [spec_l00Has.l0] at h
  | k + 1 => by
    have ih0 := spec_l00Has.mono_l k
    · intro y0 y1 y2
      unfold spec_l00Has.l0
      repeat' first
      | (with_reducible exact ih0 _ _ _)
      | (with_reducible exact LeO.refl _)
      | (with_reducible exact LeO.none _)
      | (with_reducible refine LeO.ite ?_ ?_)
      | (with_reducible refine LeO.bind ?_ (fun _ => ?_))
      | exact ih0 _ _ _
      | exact LeO.none _
      | refine LeO.ite ?_ ?_
      | refine LeO.bind ?_ (fun _ => ?_)
theorem spec_l00Has.mono : ∀ a0 a1 k, LeO (spec_l00Has.f k a0 a1) (spec_l00Has.f (k + 1) a0 a1) := by
  intro a0 a1 k
  have ih0 := spec_l00Has.mono_l k
  unfold spec_l00Has.f
  repeat' first
      | (with_reducible exact ih0 _ _ _)
      | (with_reducible exact LeO.refl _)
      | (with_reducible exact LeO.none _)
      | (with_reducible refine LeO.ite ?_ ?_)
      | (with_reducible refine LeO.bind ?_ (fun _ => ?_))
      | exact ih0 _ _ _
      | exact LeO.none _
      | refine LeO.ite ?_ ?_
      | refine LeO.bind ?_ (fun _ => ?_)
set_option maxHeartbeats 8000000 in
set_option maxRecDepth 100000 in
theorem spec_l00Has.calls (k : Nat) (A0 : Option Addr) (c0 : Nat) (l0 : List Int) (a1 : Int) (r : Bool) (w : World) (hr0 : Kd.C (Kd.int .i64) w A0 l0.length l0) (hc0 : l0.length ≤ c0) (h : spec_l00Has.f k l0 a1 = some r) :
    Calls Try.prog 70 #[.slice A0 l0.length c0, .int .i64 a1] w fun e w' => e = .returned (.bool r) ∧ Drawn0 w w' := by
  have HR0 := Aside0.mk hr0
  have HC0 := Aside0.mk hc0
  clear hr0 hc0
  have H : (spec_l00Has.l0 k l0 a1 0) = some r := h
  clear h
  have H' := Aside0.mk H
  clear H
  go_enter Try.func70, Try.ntmps70
  go_wp2
  go_loopg [5] k (fun kq v5 w' => ∃ (x5_1 : Int), v5 = .int .i64 x5_1 ∧ Aside0 (spec_l00Has.l0 kq l0 a1 x5_1 = some r) ∧ Aside0 (kq ≤ k) ∧ Drawn0 w w')
  case atStart => exact ⟨(0), (by first | rfl | (simp; done) | (simp [*]; done)), H', ⟨Nat.le_refl _⟩, by repeat (first | exact Drawn0.refl _ | apply Drawn0.step)⟩
  case round =>
    clear H'
    try clear p2
    obtain ⟨x5_1, rfl, HA, HK1, ⟨m1, rfl⟩⟩ := hrel
    cases gk with
    | zero => exact absurd HA.out (by simp [spec_l00Has.l0])
    | succ k1 =>
      have H := HA.out
      clear HA
      simp only [spec_l00Has.l0] at H
      by_cases c3 : x5_1 < (l0.length : Int)
      · rw [if_pos c3] at H
        have c3b0 : decide (x5_1 < (l0.length : Int)) = true := decide_eq_true c3
        clear c3
        by_cases c4 : 0 ≤ x5_1
        · rw [if_pos c4] at H
          have c4b0 : decide (0 ≤ x5_1) = true := decide_eq_true c4
          clear c4
          by_cases c5 : (rd l0 x5_1) = a1
          · rw [if_pos c5] at H
            have c5b0 : ((rd l0 x5_1) == a1) = true := beq_iff_eq.mpr c5
            have c5b1 : ((rd l0 x5_1) != a1) = false := bne_eq_false_iff_eq.mpr c5
            clear c5
            obtain rfl := Option.some.inj H
            have p130 : 0 ≤ (x5_1 : Int) := of_decide_eq_true (by first | (with_reducible assumption) | assumption)
            have q130 : x5_1 < (l0.length : Int) := of_decide_eq_true (by first | (with_reducible assumption) | assumption)
            obtain ⟨ad130, e130, hx130_0⟩ := Kd.at_int HR0.out x5_1 p130 q130
            cases e130
            replace p130 := eq_true p130
            replace q130 := eq_true q130
            go_wp2
            go_ret
            exact ⟨by first | rfl | (simp; done) | (simp [*]; done), by repeat (first | exact Drawn0.refl _ | apply Drawn0.step)⟩
          · rw [if_neg c5] at H
            have c5b0 : ((rd l0 x5_1) == a1) = false := beq_eq_false_iff_ne.mpr c5
            have c5b1 : ((rd l0 x5_1) != a1) = true := bne_iff_ne.mpr c5
            have H' := Aside0.mk H
            clear H
            have p130 : 0 ≤ (x5_1 : Int) := of_decide_eq_true (by first | (with_reducible assumption) | assumption)
            have q130 : x5_1 < (l0.length : Int) := of_decide_eq_true (by first | (with_reducible assumption) | assumption)
            obtain ⟨ad130, e130, hx130_0⟩ := Kd.at_int HR0.out x5_1 p130 q130
            cases e130
            replace p130 := eq_true p130
            replace q130 := eq_true q130
            go_wp2
            go_roundg k1
            case measure => have := HK1.out; omega
            case rel => exact ⟨(wrap64 (x5_1 + 1)), (by first | rfl | (simp; done) | (simp [*]; done)), H', ⟨by have := HK1.out; omega⟩, by repeat (first | exact Drawn0.refl _ | apply Drawn0.step)⟩
        · rw [if_neg c4] at H
          exact absurd H (by simp)
      · rw [if_neg c3] at H
        have c3b0 : decide (x5_1 < (l0.length : Int)) = false := decide_eq_false c3
        clear c3
        obtain rfl := Option.some.inj H
        go_wp2
        go_ret
        exact ⟨by first | rfl | (simp; done) | (simp [*]; done), by repeat (first | exact Drawn0.refl _ | apply Drawn0.step)⟩

/-! ### spec_CanLeave: function 31: this session's own text -/
theorem maskL_length (l : List S64) : (maskL l).length = 12 := by
  have key : ∀ (l : List S64) (m : List Int), (l.foldl orS m).length = m.length := by
    intro l
    induction l with
    | nil => intro m; rfl
    | cons y l ih => intro m; rw [List.foldl_cons, ih, orS_length]
  exact key _ _
theorem maskL_form (l : List S64) : ∃ m0 m1 m2 m3 m4 m5 m6 m7 m8 m9 m10 m11 : Int, maskL l = [m0, m1, m2, m3, m4, m5, m6, m7, m8, m9, m10, m11] := by
  have h := maskL_length l
  generalize maskL l = m at h
  match m, h with
  | [m0, m1, m2, m3, m4, m5, m6, m7, m8, m9, m10, m11], _ => exact ⟨m0, m1, m2, m3, m4, m5, m6, m7, m8, m9, m10, m11, rfl⟩

theorem of_drop {α : Type} {xs : List α} {p : Nat} {x : α} {rest : List α} (h : xs.drop p = x :: rest) : p < xs.length ∧ xs.drop (p + 1) = rest ∧ ∀ d, xs.getD ((p : Int)).toNat d = x := by
  have hp : p < xs.length := by
    rcases Nat.lt_or_ge p xs.length with h1 | h1
    · exact h1
    · rw [List.drop_eq_nil_of_le h1] at h; cases h
  rw [List.drop_eq_getElem_cons hp] at h
  injection h with h1 h2
  refine ⟨hp, h2, fun d => ?_⟩
  rw [Int.toNat_natCast, List.getD_eq_getElem?_getD, List.getElem?_eq_getElem hp]
  exact h1

theorem of_drop_nil {α : Type} {xs : List α} {p : Nat} (h : xs.drop p = []) : xs.length ≤ p := List.drop_eq_nil_iff.1 h

theorem step64 {p n : Nat} (h : p < n) (hn : n ≤ 1152921504606846976) : wrap64 ((p : Int) + 1) = ((p + 1 : Nat) : Int) := by
  unfold wrap64
  omega

theorem take_set_at {α : Type} (ys : List α) (p : Nat) (v : α) (h : p < ys.length) : (ys.set p v).take (p + 1) = ys.take p ++ [v] := by
  rw [List.take_succ_eq_append_getElem (by simpa using h), List.take_set_of_le (Nat.le_refl _)]
  simp

theorem i8_in {a : Int} (h : (Lit.int .i8 a).wf = true) : -128 ≤ a ∧ a ≤ 127 := by
  simp [Lit.wf, IntKind.min, IntKind.max, IntKind.signed, IntKind.bits] at h
  omega

theorem i64_in {a : Int} (h : (Lit.int .i64 a).wf = true) : -9223372036854775808 ≤ a ∧ a ≤ 9223372036854775807 := by
  simp [Lit.wf, IntKind.min, IntKind.max, IntKind.signed, IntKind.bits] at h
  omega

theorem w64_id {a : Int} (h : -9223372036854775808 ≤ a ∧ a ≤ 9223372036854775807) : wrap64 a = a := by
  unfold wrap64
  omega

theorem w8_cases (a : Int) : IntKind.i8.wrap a = if a % 256 ≥ 128 then a % 256 - 256 else a % 256 := by
  simp [IntKind.wrap, IntKind.signed, IntKind.bits]

theorem some_dec {p q : Prop} [Decidable p] [Decidable q] (h : p ↔ q) : some (decide p) = some (decide q) := by rw [decide_eq_decide.2 h]
theorem some_decF {q : Prop} [Decidable q] (h : ¬ q) : some false = some (decide q) := by rw [decide_eq_false h]
theorem some_decT {q : Prop} [Decidable q] (h : q) : some true = some (decide q) := by rw [decide_eq_true h]

def samC (x y : S64) : Bool := x.f0 == y.f0 && x.f1 == y.f1
theorem samC_eq {x y : S64} (h : samC x y = true) : x = y := by
  cases x; cases y
  simp [samC] at h
  rw [h.1, h.2]
theorem samC_ne {x y : S64} (h : samC x y = false) : x ≠ y := by
  intro e
  rw [e] at h
  simp [samC] at h
instance : DecidableEq S64 := fun x y => decidable_of_iff (samC x y = true) ⟨samC_eq, fun h => by rw [h]; simp [samC]⟩
/-- Covers as they may be: chains below n, two of them, none twice; those of s have been. -/
def okGo (n : Int) : List S64 → List S64 → Bool
  | _, [] => true
  | s, x :: r => if (0 ≤ x.f0 ∧ x.f0 < n) ∧ (0 ≤ x.f1 ∧ x.f1 < n) ∧ x.f0 ≠ x.f1 ∧ x ∉ s then okGo n (s ++ [x]) r else false
def okC (n : Int) (l : List S64) : Bool := decide (0 ≤ n ∧ n ≤ 12 ∧ l.length ≤ 60) && okGo n [] l
theorem okGo_all {n : Int} : ∀ {r s : List S64}, okGo n s r = true → (∀ x ∈ r, (0 ≤ x.f0 ∧ x.f0 < n) ∧ (0 ≤ x.f1 ∧ x.f1 < n) ∧ x.f0 ≠ x.f1) ∧ r.Nodup ∧ ∀ x ∈ r, x ∉ s
  | [], s, _ => by simp
  | x :: r, s, h => by
    simp only [okGo] at h
    split at h
    · rename_i hx
      obtain ⟨h1, h2, h3⟩ := okGo_all h
      refine ⟨fun y hy => ?_, List.nodup_cons.2 ⟨fun m => h3 x m (by simp), h2⟩, fun y hy => ?_⟩
      · rcases List.mem_cons.1 hy with rfl | hy
        · exact ⟨hx.1, hx.2.1, hx.2.2.1⟩
        · exact h1 y hy
      · rcases List.mem_cons.1 hy with rfl | hy
        · exact hx.2.2.2
        · exact fun m => h3 y hy (List.mem_append_left _ m)
    · cases h
theorem okC_ok {n : Int} {l : List S64} (h : okC n l = true) : 0 ≤ n ∧ n ≤ 12 ∧ l.length ≤ 60 ∧ (∀ x ∈ l, (0 ≤ x.f0 ∧ x.f0 < n) ∧ (0 ≤ x.f1 ∧ x.f1 < n) ∧ x.f0 ≠ x.f1) ∧ l.Nodup := by
  unfold okC at h
  rw [Bool.and_eq_true, decide_eq_true_iff] at h
  obtain ⟨h1, h2, _⟩ := okGo_all h.2
  exact ⟨h.1.1, h.1.2.1, h.1.2.2, h1, h2⟩
def InC (x : S64) : Prop := (-128 ≤ x.f0 ∧ x.f0 ≤ 127) ∧ (-128 ≤ x.f1 ∧ x.f1 ≤ 127)

/-- 0, 1, .. below n. -/
def cntI (n : Nat) : List Int := (List.range n).map fun (i : Nat) => (i : Int)
theorem cntI_length (n : Nat) : (cntI n).length = n := by simp [cntI]
theorem perm_of_sub : ∀ (r s : List Int), r.Nodup → (∀ x ∈ r, x ∈ s) → s.length ≤ r.length → r.Perm s
  | [], s, _, _, hl => by
    have : s = [] := List.length_eq_zero_iff.1 (by simpa using hl)
    rw [this]
  | x :: r, s, hn, hs, hl => by
    obtain ⟨h1, h2⟩ := List.nodup_cons.1 hn
    have hx := hs x List.mem_cons_self
    have hle := List.length_erase_of_mem hx
    have ih := perm_of_sub r (s.erase x) h2 (fun y hy => (List.mem_erase_of_ne (fun e => by rw [e] at hy; exact h1 hy)).2 (hs y (List.mem_cons_of_mem _ hy))) (by rw [hle]; simp at hl; omega)
    exact (List.Perm.cons x ih).trans (List.perm_cons_erase hx).symm
theorem cntI_mem {n : Nat} {x : Int} : x ∈ cntI n ↔ 0 ≤ x ∧ x < n := by
  unfold cntI
  rw [List.mem_map]
  constructor
  · intro ⟨i, hi, e⟩
    have := List.mem_range.1 hi
    omega
  · intro h
    exact ⟨x.toNat, List.mem_range.2 (by omega), by omega⟩
theorem cntI_lt (n : Nat) : (cntI n).Pairwise (fun a b => a < b) := by
  unfold cntI
  rw [List.pairwise_map]
  exact List.pairwise_lt_range.imp (fun h => by omega)
theorem cntI_nodup (n : Nat) : (cntI n).Nodup := (cntI_lt n).imp (fun h => by omega)

theorem wu16 {a : Nat} (h : a < 65536) : IntKind.u16.wrap (a : Int) = a := by
  have : IntKind.u16.wrap (a : Int) = (a : Int) % 65536 := by simp [IntKind.wrap, IntKind.signed, IntKind.bits]
  rw [this]
  omega
theorem wu64 {a : Nat} (h : a < 65536) : IntKind.u64.wrap (a : Int) = a := by
  have : IntKind.u64.wrap (a : Int) = (a : Int) % 18446744073709551616 := by simp [IntKind.wrap, IntKind.signed, IntKind.bits]
  rw [this]
  omega
theorem bits_or {a b : Nat} (ha : a < 65536) (hb : b < 65536) : Go.bits .or .u16 (a : Int) (b : Int) = ((a ||| b : Nat) : Int) := by
  have hab : a ||| b < 65536 := Nat.or_lt_two_pow (n := 16) ha hb
  have : Go.bits .or .u16 (a : Int) (b : Int) = IntKind.u16.wrap (((BitVec.ofInt 16 (a : Int) ||| BitVec.ofInt 16 (b : Int)).toNat : Nat) : Int) := rfl
  rw [this, BitVec.toNat_or]
  have e : ∀ x : Nat, x < 65536 → (BitVec.ofInt 16 (x : Int)).toNat = x := fun x hx => by
    rw [BitVec.toNat_ofInt]
    omega
  rw [e a ha, e b hb, wu16 hab]
theorem bits_and1 {a : Nat} (ha : a < 65536) : Go.bits .and .u16 (a : Int) 1 = ((a % 2 : Nat) : Int) := by
  have : Go.bits .and .u16 (a : Int) 1 = IntKind.u16.wrap (((BitVec.ofInt 16 (a : Int) &&& BitVec.ofInt 16 ((1 : Nat) : Int)).toNat : Nat) : Int) := rfl
  rw [this, BitVec.toNat_and]
  have e : ∀ x : Nat, x < 65536 → (BitVec.ofInt 16 (x : Int)).toNat = x := fun x hx => by
    rw [BitVec.toNat_ofInt]
    omega
  rw [e a ha, e 1 (by omega), Nat.and_one_is_mod, wu16 (by omega)]
/-- Is a bit set? -/
def bitI (z i : Int) : Bool := decide (Go.bits .and .u16 (shr .u16 z (IntKind.u64.wrap i)) 1 = 1)
theorem bitI_is {a i : Nat} (ha : a < 65536) (hi : i < 12) : bitI (a : Int) (i : Int) = a.testBit i := by
  have hlt : a / 2 ^ i < 65536 := Nat.lt_of_le_of_lt (Nat.div_le_self _ _) ha
  have e : shr .u16 (a : Int) (IntKind.u64.wrap (i : Int)) = ((a / 2 ^ i : Nat) : Int) := by
    unfold shr
    rw [wu64 (by omega), Int.toNat_natCast, show IntKind.u16.bits = 16 from rfl, Nat.min_eq_left (by omega)]
    norm_cast
  unfold bitI
  rw [e, bits_and1 hlt, Nat.testBit_eq_decide_div_mod_eq]
  exact decide_eq_decide.2 (by omega)
theorem one_bit {v : Nat} (hv : v < 12) : IntKind.u16.wrap (2 ^ min (IntKind.u64.wrap (v : Int)).toNat 16) = ((2 ^ v : Nat) : Int) := by
  rw [wu64 (by omega), Int.toNat_natCast, Nat.min_eq_left (by omega)]
  have h : 2 ^ v < 65536 := Nat.lt_of_lt_of_le (Nat.pow_lt_pow_right (by omega) (show v < 16 by omega)) (by decide)
  have e : (2 : Int) ^ v = ((2 ^ v : Nat) : Int) := by norm_cast
  rw [e, wu16 h]
/-- What the masks say. -/
def Says (m : List Int) (s : List S64) : Prop := m.length = 12 ∧ ∀ c : Nat, c < 12 → ∃ a : Nat, rd m (c : Int) = a ∧ a < 65536 ∧ ∀ i : Nat, i < 12 → (a.testBit i = true ↔ ∃ x ∈ s, x.f1 = (c : Int) ∧ x.f0 = (i : Int))
theorem says_zero : Says [0, 0, 0, 0, 0, 0, 0, 0, 0, 0, 0, 0] [] := by
  refine ⟨rfl, fun c hc => ⟨0, ?_, by omega, fun i _ => by simp⟩⟩
  have : ∀ c, c < 12 → rd [0, 0, 0, 0, 0, 0, 0, 0, 0, 0, 0, 0] ((c : Nat) : Int) = 0 := by decide
  exact this c hc
theorem says_or {m : List Int} {s : List S64} {x : S64} (h : Says m s) (h0 : 0 ≤ x.f0 ∧ x.f0 < 12) (h1 : 0 ≤ x.f1 ∧ x.f1 < 12) : Says (orS m x) (s ++ [x]) := by
  obtain ⟨u, hu⟩ : ∃ u : Nat, x.f1 = (u : Int) := ⟨x.f1.toNat, by omega⟩
  obtain ⟨v, hv⟩ : ∃ v : Nat, x.f0 = (v : Int) := ⟨x.f0.toNat, by omega⟩
  refine ⟨by rw [orS_length]; exact h.1, fun c hc => ?_⟩
  obtain ⟨a, ha, hlt, hb⟩ := h.2 c hc
  have hp : 2 ^ v < 65536 := Nat.lt_of_lt_of_le (Nat.pow_lt_pow_right (by omega) (show v < 16 by omega)) (by decide)
  by_cases e : c = u
  · subst e
    refine ⟨a ||| 2 ^ v, ?_, Nat.or_lt_two_pow (n := 16) hlt hp, fun i hi => ?_⟩
    · unfold orS
      rw [hu, hv, Int.toNat_natCast, ha, one_bit (by omega), bits_or hlt hp, rd, Int.toNat_natCast, List.getD_eq_getElem?_getD, List.getElem?_set_self (by rw [h.1]; exact hc)]
      rfl
    · rw [Nat.testBit_or, Bool.or_eq_true, hb i hi, Nat.testBit_two_pow, decide_eq_true_iff]
      constructor
      · rintro (⟨y, hy, h2⟩ | h2)
        · exact ⟨y, List.mem_append_left _ hy, h2⟩
        · exact ⟨x, by simp, hu, by rw [hv, h2]⟩
      · rintro ⟨y, hy, h2⟩
        rcases List.mem_append.1 hy with hy | hy
        · exact .inl ⟨y, hy, h2⟩
        · rw [List.mem_singleton.1 hy] at h2
          right
          have := h2.2
          omega
  · refine ⟨a, ?_, hlt, fun i hi => ?_⟩
    · unfold orS
      rw [hu, Int.toNat_natCast, ← ha]
      simp only [rd, Int.toNat_natCast, List.getD_eq_getElem?_getD]
      rw [List.getElem?_set_ne (fun g => e g.symm)]
    · rw [hb i hi]
      constructor
      · rintro ⟨y, hy, h2⟩
        exact ⟨y, List.mem_append_left _ hy, h2⟩
      · rintro ⟨y, hy, h2⟩
        rcases List.mem_append.1 hy with hy | hy
        · exact ⟨y, hy, h2⟩
        · rw [List.mem_singleton.1 hy] at h2
          have := h2.1
          omega
theorem says_mask : ∀ (l s : List S64) (m : List Int), Says m s → (∀ x ∈ l, (0 ≤ x.f0 ∧ x.f0 < 12) ∧ (0 ≤ x.f1 ∧ x.f1 < 12)) → Says (l.foldl orS m) (s ++ l)
  | [], s, m, h, _ => by simpa using h
  | x :: l, s, m, h, hin => by
    have := says_mask l (s ++ [x]) (orS m x) (says_or h (hin x List.mem_cons_self).1 (hin x List.mem_cons_self).2) (fun y hy => hin y (List.mem_cons_of_mem _ hy))
    simpa using this
theorem says_all (l : List S64) (hin : ∀ x ∈ l, (0 ≤ x.f0 ∧ x.f0 < 12) ∧ (0 ≤ x.f1 ∧ x.f1 < 12)) : Says (maskL l) l := by
  have := says_mask l [] _ says_zero hin
  rw [List.nil_append] at this
  exact this
/-- The numbers of the bits of a set. -/
def listB (z : Int) : List Int := (cntI 12).filter (bitI z)

theorem l00Has_l0 (l : List Int) (a : Int) (hl : l.length ≤ 1152921504606846976) : ∀ (rest : List Int) (p k : Nat), l.drop p = rest → rest.length < k → spec_l00Has.l0 k l a (p : Int) = some (rest.contains a) := by
  intro rest
  induction rest with
  | nil =>
    intro p k hd hk
    obtain ⟨k, rfl⟩ : ∃ m, k = m + 1 := ⟨k - 1, by simp at hk; omega⟩
    have := of_drop_nil hd
    simp only [spec_l00Has.l0]
    rw [if_neg (by omega)]
    rfl
  | cons x rest ih =>
    intro p k hd hk
    simp only [List.length_cons] at hk
    obtain ⟨k, rfl⟩ : ∃ m, k = m + 1 := ⟨k - 1, by omega⟩
    obtain ⟨hp, hd', hx⟩ := of_drop hd
    simp only [spec_l00Has.l0, rd, hx]
    rw [if_pos (by omega), if_pos (by omega), step64 hp hl, ih (p + 1) k hd' (by omega)]
    by_cases e : x = a
    · rw [if_pos e, e]; simp
    · rw [if_neg e, List.contains_cons]
      have : (a == x) = false := by simpa using fun h => e h.symm
      rw [this, Bool.false_or]
theorem l00Has_is (l : List Int) (a : Int) (hl : l.length ≤ 1152921504606846976) (k : Nat) (hk : l.length < k) : spec_l00Has.f k l a = some (l.contains a) := by
  unfold spec_l00Has.f
  exact l00Has_l0 l a hl l 0 k rfl hk

/-- A list of whole numbers, sorted. -/
def sort64 (l : List Int) : List Int := l.mergeSort fun x y => decide (x ≤ y)
theorem sort64_length (l : List Int) : (sort64 l).length = l.length := List.length_mergeSort ..
theorem sort_own {P : Program} {f : FuncId} (hs : ∀ (blk off cap : Nat) (zs : List Int) (w : World), Sort.Holds (Value.int .i64) w blk off zs.toArray → blk < w.heap.size → zs.length < 4611686018427387904 → Calls P f #[.slice (some ⟨blk, off, none⟩) zs.length cap] w fun e w' => e = .returned (.tuple #[]) ∧ ∃ n os, w' = Sort.grow (Sort.putRow (Value.int .i64) (Sort.ahead w n) blk off (zs.mergeSort fun x y => decide (x ≤ y)).toArray) os)
    (hn : ∀ (p : Option Addr) (cap : Nat) (w : World), Calls P f #[.slice p 0 cap] w fun e w' => e = .returned (.tuple #[]) ∧ w' = w)
    {e base c : Nat} {w : World} {A : Option Addr} {l : List Int} (h : Kd.R (Kd.int .i64) e w base (fun _ => True) (.slice A l.length c) l) (hl : l.length < 4611686018427387904) :
    Calls P f #[.slice A l.length c] w fun e' w' => e' = .returned (.tuple #[]) ∧ Kd.R (Kd.int .i64) e w' base (fun _ => True) (.slice A l.length c) (sort64 l) ∧ Below base w w' := by
  rcases Nat.eq_zero_or_pos l.length with h0 | h0
  · have hl0 : l = [] := List.length_eq_zero_iff.1 h0
    subst hl0
    refine (hn A c w).mono fun e' w' ⟨h1, h2⟩ => ?_
    subst h2
    exact ⟨h1, by simpa [sort64] using h, Below.refl _ _⟩
  · have ho := Kd.own_of_R h
    rcases ho.2 with ⟨h1, h2⟩ | ⟨g, cap, cur, hv, hb, hh, h1, h2, h3, h4⟩
    · omega
    · simp only [Value.slice.injEq] at hv
      obtain ⟨rfl, _, rfl⟩ := hv
      have ht : cur.toList.take l.length = l.map (Value.int .i64) := by simpa [encs] using h4
      have hH := Go.holds_of_blockI hh ht
      refine (hs g 0 c l w hH (blk_lt hh) hl).mono fun e' w' ⟨h5, n, os, h6⟩ => ?_
      subst h6
      have hlen : (l.mergeSort fun x y => decide (x ≤ y)).length = l.length := List.length_mergeSort ..
      have hown := Go.ownsRow_sortedI (n := n) (os := os) (ts := l.mergeSort fun x y => decide (x ≤ y)) hlen hb hh h1 h2 h3
      have hg := Go.grownBy_sortedI (w := w) (g := g) (n := n) (os := os) (l.mergeSort fun x y => decide (x ≤ y)).toArray
      refine ⟨h5, ?_, ⟨hg.os, hg.tape, hg.output, hg.size, fun i hi => hg.block i (Nat.lt_of_lt_of_le (Nat.lt_of_lt_of_le hi hb) (Nat.le_of_lt (blk_lt hh))) (by simp; omega)⟩⟩
      have hR := Kd.R_of_own (enc := Value.int .i64) (h1 := fun _ => rfl) (e := e) (base := base) (ok := fun _ => True) (xs := sort64 l) (by rw [sort64_length]; exact hown) (fun _ _ => trivial)
      exact hR

/-- Each number below n at most once, none of s. -/
def eachB (n : Int) : List Int → List Int → Bool
  | _, [] => true
  | s, x :: r => if 0 ≤ x ∧ x < n then (if s.contains x = true then false else eachB n (s ++ [x]) r) else false
def okE (n : Nat) (r : List Int) : Bool := eachB n [] r && decide (r.length = n)
theorem eachB_iff (n : Int) : ∀ (r s : List Int), eachB n s r = true ↔ (∀ x ∈ r, 0 ≤ x ∧ x < n) ∧ r.Nodup ∧ ∀ x ∈ r, x ∉ s
  | [], s => by simp [eachB]
  | x :: r, s => by
    have ih := eachB_iff n r (s ++ [x])
    simp only [eachB]
    by_cases h1 : 0 ≤ x ∧ x < n
    · rw [if_pos h1]
      by_cases h2 : s.contains x = true
      · rw [if_pos h2]
        have : x ∈ s := by simpa using h2
        constructor
        · intro h; cases h
        · intro h; exact absurd this (h.2.2 x List.mem_cons_self)
      · rw [if_neg h2, ih]
        have hx : x ∉ s := by simpa using h2
        constructor
        · intro ⟨a, b, c⟩
          refine ⟨fun y hy => ?_, List.nodup_cons.2 ⟨fun hm => c x hm (by simp), b⟩, fun y hy => ?_⟩
          · rcases List.mem_cons.1 hy with rfl | hy
            · exact h1
            · exact a y hy
          · rcases List.mem_cons.1 hy with rfl | hy
            · exact hx
            · exact fun hm => c y hy (List.mem_append_left _ hm)
        · intro ⟨a, b, c⟩
          obtain ⟨b1, b2⟩ := List.nodup_cons.1 b
          refine ⟨fun y hy => a y (List.mem_cons_of_mem _ hy), b2, fun y hy hm => ?_⟩
          rcases List.mem_append.1 hm with hm | hm
          · exact c y (List.mem_cons_of_mem _ hy) hm
          · rw [List.mem_singleton.1 hm] at hy; exact b1 hy
    · rw [if_neg h1]
      constructor
      · intro h; cases h
      · intro h; exact absurd (h.1 x List.mem_cons_self) h1
theorem sort_each (n : Nat) (r : List Int) : decide (sort64 r = cntI n) = okE n r := by
  have hp : (sort64 r).Perm r := List.mergeSort_perm ..
  rw [Bool.eq_iff_iff]
  unfold okE
  rw [Bool.and_eq_true, decide_eq_true_iff, decide_eq_true_iff, eachB_iff]
  constructor
  · intro h
    rw [h] at hp
    refine ⟨⟨fun x hx => cntI_mem.1 (hp.mem_iff.2 hx), hp.nodup_iff.1 (cntI_nodup n), fun x _ => by simp⟩, ?_⟩
    rw [← hp.length_eq, cntI_length]
  · intro ⟨⟨h1, h2, _⟩, h3⟩
    have hq := perm_of_sub r (cntI n) h2 (fun x hx => cntI_mem.2 (h1 x hx)) (by rw [cntI_length]; omega)
    refine List.Perm.eq_of_pairwise (le := fun a b => decide (a ≤ b) = true) (fun a b _ _ hab hba => ?_) ?_ ?_ (hp.trans hq)
    · have := of_decide_eq_true hab
      have := of_decide_eq_true hba
      omega
    · exact List.pairwise_mergeSort (fun a b c h1 h2 => decide_eq_true (by have := of_decide_eq_true h1; have := of_decide_eq_true h2; omega)) (fun a b => by
        rcases Int.le_total a b with h | h
        · rw [decide_eq_true h]; rfl
        · rw [decide_eq_true (p := b ≤ a) h, Bool.or_true]) r
    · exact (cntI_lt n).imp (fun h => decide_eq_true (by omega))

/-- One after the other: does none lie over it of those that are left? -/
def canM (m : List Int) : List Int → Int → Bool
  | [], _ => true
  | x :: r, s => if Go.bits .and .u16 (rd m x) s = 0 then canM m r (Go.bits .andNot .u16 s (IntKind.u16.wrap (2 ^ x.toNat))) else false
def spec_CanLeave.f (k : Nat) (a0 : Int) (l1 : List S64) (l2 : List Int) : Option (Bool × Int) := (spec_l03Asked.f k a0 l1 true).bind fun c => if c = 0 then (if (l1.length ≤ 1048576 ∧ ∀ x ∈ l1, (0 ≤ x.f0 ∧ x.f0 < 12) ∧ (0 ≤ x.f1 ∧ x.f1 < 12)) ∧ (0 ≤ a0 ∧ a0 ≤ 12) ∧ l2.length ≤ 1048576 then (spec_l03All.f a0).bind fun z => if (l2.length : Int) = a0 ∧ eachB a0 [] l2 = true then some (canM (maskL l1) l2 z, 0) else some (false, 4) else none) else some (false, c)
theorem spec_CanLeave.mono : ∀ a0 a1 a2 k, LeO (spec_CanLeave.f k a0 a1 a2) (spec_CanLeave.f (k + 1) a0 a1 a2) := by
  intro a0 a1 a2 k
  unfold spec_CanLeave.f
  repeat' first
      | (with_reducible exact spec_l03Asked.mono _ _ _ _)
      | (with_reducible exact LeO.refl _)
      | (with_reducible exact LeO.none _)
      | (with_reducible refine LeO.ite ?_ ?_)
      | (with_reducible refine LeO.bind ?_ (fun _ => ?_))
      | exact spec_l03Asked.mono _ _ _ _
      | exact LeO.none _
      | refine LeO.ite ?_ ?_
      | refine LeO.bind ?_ (fun _ => ?_)
theorem each_take {n : Int} {r : List Int} {i : Nat} (hi : i < r.length) (s : List Int) : eachB n s (r.drop i) = if 0 ≤ rd r (i : Int) ∧ rd r (i : Int) < n then (if s.contains (rd r (i : Int)) = true then false else eachB n (s ++ [rd r (i : Int)]) (r.drop (i + 1))) else false := by
  have hr : rd r (i : Int) = r[i] := by rw [rd, Int.toNat_natCast, List.getD_eq_getElem?_getD, List.getElem?_eq_getElem hi]; rfl
  rw [List.drop_eq_getElem_cons hi, eachB, hr]
set_option maxHeartbeats 8000000 in
set_option maxRecDepth 100000 in
theorem spec_CanLeave.calls (k : Nat) (a0 : Int) (A1 : Option Addr) (c1 : Nat) (l1 : List (S64)) (A2 : Option Addr) (c2 : Nat) (l2 : List Int) (r1 : Bool) (r2 : Int) (w : World) (hr1 : Kd.C k64 w A1 l1.length l1) (hc1 : l1.length ≤ c1) (hr2 : Kd.C (Kd.int .i64) w A2 l2.length l2) (hc2 : l2.length ≤ c2) (h : spec_CanLeave.f k a0 l1 l2 = some (r1, r2)) :
    Calls Try.prog 31 #[.int .i64 a0, .slice A1 l1.length c1, .slice A2 l2.length c2] w fun e w' => e = .returned (.tuple #[.bool r1, .int .i64 r2]) ∧ Below w.heap.size w w' := by
  unfold spec_CanLeave.f at h
  obtain ⟨c, hc, h⟩ := Option.bind_eq_some_iff.mp h
  have has : Aside0 (∀ W, Below w.heap.size w W → Calls Try.prog 51 #[.int .i64 a0, .slice A1 l1.length c1, .bool true] W fun e w' => e = .returned (.int .i64 c) ∧ Below W.heap.size W w') := ⟨fun W hw => spec_l03Asked.calls k a0 A1 c1 l1 true c W (Kd.C_below hr1 hw) hc1 hc⟩
  have HB := Aside0.mk (Below.refl w.heap.size w)
  by_cases hc0 : c = 0
  · rw [if_pos hc0] at h
    by_cases hg : (l1.length ≤ 1048576 ∧ ∀ x ∈ l1, (0 ≤ x.f0 ∧ x.f0 < 12) ∧ (0 ≤ x.f1 ∧ x.f1 < 12)) ∧ (0 ≤ a0 ∧ a0 ≤ 12) ∧ l2.length ≤ 1048576
    · rw [if_pos hg] at h
      obtain ⟨z, hz, h⟩ := Option.bind_eq_some_iff.mp h
      have HF := Aside0.mk h
      have HN := Aside0.mk hg.2
      obtain ⟨m0, m1, m2, m3, m4, m5, m6, m7, m8, m9, m10, m11, hml⟩ := maskL_form l1
      have hov : Aside0 (∀ W, Below w.heap.size w W → Calls Try.prog 53 #[.slice A1 l1.length c1] W fun e w' => e = .returned (.agg #[.int .u16 m0, .int .u16 m1, .int .u16 m2, .int .u16 m3, .int .u16 m4, .int .u16 m5, .int .u16 m6, .int .u16 m7, .int .u16 m8, .int .u16 m9, .int .u16 m10, .int .u16 m11]) ∧ Below W.heap.size W w') := ⟨fun W hw => by
        have := spec_l03Over.calls A1 c1 l1 W (Kd.C_below hr1 hw) hc1 (by unfold spec_l03Over.f; rw [if_pos hg.1])
        rw [hml] at this
        exact this⟩
      have hal : Aside0 (∀ W, Calls Try.prog 68 #[.int .i64 a0] W fun e w' => e = .returned (.int .u16 z) ∧ Drawn0 W w') := ⟨fun W => spec_l03All.calls a0 z W hz⟩
      have hin : Aside0 (∀ W y, Calls Try.prog 52 #[.int .i64 y, .int .i64 0, .int .i64 (a0 - 1)] W fun e w' => e = .returned (.bool (decide (0 ≤ y ∧ y < a0))) ∧ Drawn0 W w') := ⟨fun W y => spec_l00In.calls _ _ _ _ W (by
        unfold spec_l00In.f
        split
        · exact congrArg some (by first | (rw [decide_eq_decide]; omega) | (symm; exact decide_eq_true (by omega)) | (rw [Bool.eq_iff_iff]; simp; omega))
        · exact congrArg some (by first | (symm; exact decide_eq_false (by omega)) | (rw [decide_eq_decide]; omega)))⟩
      have hha : Aside0 (∀ W y (i : Nat) A, A2 = A → Below w.heap.size w W → i ≤ l2.length → Calls Try.prog 70 #[.slice A i c2, .int .i64 y] W fun e w' => e = .returned (.bool ((l2.take i).contains y)) ∧ Drawn0 W w') := ⟨fun W y i A hA hW hi => by
        subst hA
        have hl : (l2.take i).length = i := by rw [List.length_take]; omega
        have hC := Kd.C_take (m := i) (Kd.C_below hr2 hW) hi
        have := spec_l00Has.calls ((l2.take i).length + 1) A2 c2 (l2.take i) y _ W hC (by omega) (l00Has_is (l2.take i) y (by have := hg.2.2; omega) _ (by omega))
        rw [hl] at this
        exact this⟩
      have hcell : Aside0 (∀ (W : World) (p x : Nat), W.heap[p]? = some (.cells #[.int .u16 m0, .int .u16 m1, .int .u16 m2, .int .u16 m3, .int .u16 m4, .int .u16 m5, .int .u16 m6, .int .u16 m7, .int .u16 m8, .int .u16 m9, .int .u16 m10, .int .u16 m11] 59 (0, 0)) → x < 12 → W.cell? ⟨p, x, none⟩ = some (.int .u16 (rd (maskL l1) (x : Int)))) := ⟨fun W p x hb hx => by
        have := cell_of_ints (w := W) (g := p) (xs := maskL l1) (k := .u16) (by rw [hml]; exact hb) (i := (x : Int)) (by rw [maskL_length, Int.toNat_natCast]; omega)
        rw [Int.toNat_natCast] at this
        exact this⟩
      have HR2 := Aside0.mk hr2
      have HC2 := Aside0.mk hc2
      subst hc0
      have HA1 : Aside0 (wrap64 (a0 - 1) = a0 - 1) := ⟨by have := HN.out.1; unfold wrap64; omega⟩
      clear hr1 hc1 hc hml hg hz h hr2 hc2
      by_cases hle : (l2.length : Int) = a0
      · have HLE := Aside0.mk hle
        have cne : ((l2.length : Int) != a0) = false := bne_eq_false_iff_eq.mpr hle
        clear hle
        go_enter Try.func31, Try.ntmps31
        go_wp2_with (first | (go_at_call 51; refine (has.out _ HB.out).mono ?_; rintro e w2 ⟨rfl, hb2⟩; have HB2 := Aside0.mk (HB.out.trans (hb2.mono HB.out.size)); clear hb2))
        go_loopg [8, 9] (l2.length + 1) (fun gk v8 v9 w' => ∃ (x : Nat) (cd : Int), v9 = .int .i64 x ∧ v8 = .int .i64 cd ∧ Aside0 ((cd = 0 ∧ x + gk = l2.length + 1 ∧ x ≤ l2.length ∧ eachB a0 [] l2 = eachB a0 (l2.take x) (l2.drop x)) ∨ (cd = 4 ∧ eachB a0 [] l2 = false)) ∧ Aside0 (Below w.heap.size w w'))
        case atStart => exact ⟨0, 0, rfl, rfl, ⟨.inl ⟨rfl, by omega, by omega, rfl⟩⟩, HB2⟩
        case round =>
          clear HB2
          obtain ⟨x, cd, rfl, rfl, HI, HB⟩ := hrel
          rcases HI.out with ⟨h0, h1, h2, h3⟩ | ⟨h0, h1⟩
          · clear HI
            subst h0
            have HK := Aside0.mk (And.intro h1 (And.intro h2 h3))
            by_cases c3 : x < l2.length
            · obtain ⟨ad1, e1, hx1⟩ := Kd.at_int HR2.out (x : Int) (by omega) (by omega)
              cases e1
              replace hx1 := (HB.out.cell (World.block_lt_of_cell? w _ hx1)).trans hx1
              simp only [Int.toNat_natCast] at hx1
              have he := each_take (n := a0) c3 (l2.take x)
              have ht : l2.take x ++ [rd l2 (x : Int)] = l2.take (x + 1) := by
                rw [List.take_succ_eq_append_getElem c3, rd, Int.toNat_natCast, List.getD_eq_getElem?_getD, List.getElem?_eq_getElem c3]
                rfl
              rw [ht] at he
              obtain ⟨y, hy⟩ : ∃ y, y = rd l2 (x : Int) := ⟨_, rfl⟩
              rw [← hy] at hx1 he
              have HX : Aside0 (wrap64 ((x : Int) + 1) = ((x + 1 : Nat) : Int)) := ⟨by have := HN.out.2; unfold wrap64; omega⟩
              have HX2 := Aside0.mk (And.intro c3 he)
              have c3b : decide ((x : Int) < (l2.length : Int)) = true := decide_eq_true (by omega)
              have c3n : decide (x < l2.length) = true := decide_eq_true c3
              have c3l : decide ((x : Int) ≤ (l2.length : Int)) = true := decide_eq_true (by omega)
              have c3m : decide (x ≤ l2.length) = true := decide_eq_true (by omega)
              have p0b : decide (0 ≤ (x : Int)) = true := decide_eq_true (by omega)
              have p0t : (0 ≤ (x : Int)) = True := eq_true (by omega)
              have c3t : (x < l2.length) = True := eq_true c3
              have c3u : ((x : Int) < (l2.length : Int)) = True := eq_true (by omega)
              have c3v : (x ≤ l2.length) = True := eq_true (by omega)
              have c3w : ((x : Int) ≤ (l2.length : Int)) = True := eq_true (by omega)
              clear h1 h2 h3 c3 ht he hy
              cases hb1 : decide (0 ≤ y ∧ y < a0) with
              | false =>
                have HE : Aside0 (eachB a0 [] l2 = false) := ⟨by rw [HK.out.2.2, HX2.out.2, if_neg (of_decide_eq_false hb1)]⟩
                have hin1 : Aside0 (∀ W, Calls Try.prog 52 #[.int .i64 y, .int .i64 0, .int .i64 (a0 - 1)] W fun e w' => e = .returned (.bool false) ∧ Drawn0 W w') := ⟨fun W => by have := hin.out W y; rw [hb1] at this; exact this⟩
                clear hb1
                have hwi : IntKind.i64.wrap (a0 - 1) = a0 - 1 := wi64 (by have := HN.out.1; omega) (by have := HN.out.1; omega)
                go_wp2
                go_quiet (first | (go_at_call 52; (with_reducible refine (hin1.out _).mono ?_); rintro e w' ⟨rfl, ⟨nd, rfl⟩⟩; (try first | exact ⟨rfl, _, World.drewN_drewN _ _ _⟩ | exact ⟨rfl, _, Eq.trans (World.drewN_drewN _ _ _) (congrArg (World.drewN _) (Nat.add_assoc _ _ _))⟩)))
                go_wp2
                go_roundg (gk - 1)
                case measure => have := HK.out.1; have := HX2.out.1; omega
                case rel => exact ⟨x + 1, 4, by first | rfl | rw [HX.out], rfl, ⟨.inr ⟨rfl, HE.out⟩⟩, ⟨(by repeat (first | (with_reducible exact HB.out) | apply pw_below_drewN | apply below_drew))⟩⟩
              | true =>
                have hin1 : Aside0 (∀ W, Calls Try.prog 52 #[.int .i64 y, .int .i64 0, .int .i64 (a0 - 1)] W fun e w' => e = .returned (.bool true) ∧ Drawn0 W w') := ⟨fun W => by have := hin.out W y; rw [hb1] at this; exact this⟩
                have HT1 := Aside0.mk (of_decide_eq_true hb1)
                have hwi : IntKind.i64.wrap (a0 - 1) = a0 - 1 := wi64 (by have := HN.out.1; omega) (by have := HN.out.1; omega)
                obtain ⟨i011, hi011, _, hsz11, _⟩ := info_parts info2
                obtain ⟨hcut11, hA11, hC11⟩ := print_take_of (P := Try.prog) (Value.int .i64) 0 24 2 .i64 Try.underlying24 hi011 hsz11 (some ad1) c2 l2 (x : Int) (by omega) (by have := HX2.out.1; omega) HC2.out
                clear hA11 hC11 hi011 hsz11 hb1
                cases hb2 : (l2.take x).contains y with
                | true =>
                  have hha1 : Aside0 (∀ W, Below w.heap.size w W → Calls Try.prog 70 #[.slice (some ad1) x c2, .int .i64 y] W fun e w' => e = .returned (.bool true) ∧ Drawn0 W w') := ⟨fun W hW => by have := hha.out W y x _ rfl hW (by have := HX2.out.1; omega); rw [hb2] at this; exact this⟩
                  have HE : Aside0 (eachB a0 [] l2 = false) := ⟨by rw [HK.out.2.2, HX2.out.2, if_pos HT1.out, if_pos hb2]⟩
                  clear hb2
                  go_wp2
                  go_quiet (first | (go_at_call 52; (with_reducible refine (hin1.out _).mono ?_); rintro e w' ⟨rfl, ⟨nd, rfl⟩⟩; (try first | exact ⟨rfl, _, World.drewN_drewN _ _ _⟩ | exact ⟨rfl, _, Eq.trans (World.drewN_drewN _ _ _) (congrArg (World.drewN _) (Nat.add_assoc _ _ _))⟩)) | (go_at_call 70; (with_reducible refine (hha1.out _ (by repeat (first | (with_reducible exact HB.out) | apply pw_below_drewN | apply below_drew))).mono ?_); rintro e w' ⟨rfl, ⟨nd, rfl⟩⟩; (try first | exact ⟨rfl, _, World.drewN_drewN _ _ _⟩ | exact ⟨rfl, _, Eq.trans (World.drewN_drewN _ _ _) (congrArg (World.drewN _) (Nat.add_assoc _ _ _))⟩)))
                  go_wp2
                  go_roundg (gk - 1)
                  case measure => have := HK.out.1; have := HX2.out.1; omega
                  case rel => exact ⟨x + 1, 4, by first | rfl | rw [HX.out], rfl, ⟨.inr ⟨rfl, HE.out⟩⟩, ⟨(by repeat (first | (with_reducible exact HB.out) | apply pw_below_drewN | apply below_drew))⟩⟩
                | false =>
                  have hha1 : Aside0 (∀ W, Below w.heap.size w W → Calls Try.prog 70 #[.slice (some ad1) x c2, .int .i64 y] W fun e w' => e = .returned (.bool false) ∧ Drawn0 W w') := ⟨fun W hW => by have := hha.out W y x _ rfl hW (by have := HX2.out.1; omega); rw [hb2] at this; exact this⟩
                  have HE : Aside0 (eachB a0 [] l2 = eachB a0 (l2.take (x + 1)) (l2.drop (x + 1))) := ⟨by rw [HK.out.2.2, HX2.out.2, if_pos HT1.out, if_neg (by rw [hb2]; decide)]⟩
                  clear hb2
                  go_wp2
                  go_quiet (first | (go_at_call 52; (with_reducible refine (hin1.out _).mono ?_); rintro e w' ⟨rfl, ⟨nd, rfl⟩⟩; (try first | exact ⟨rfl, _, World.drewN_drewN _ _ _⟩ | exact ⟨rfl, _, Eq.trans (World.drewN_drewN _ _ _) (congrArg (World.drewN _) (Nat.add_assoc _ _ _))⟩)) | (go_at_call 70; (with_reducible refine (hha1.out _ (by repeat (first | (with_reducible exact HB.out) | apply pw_below_drewN | apply below_drew))).mono ?_); rintro e w' ⟨rfl, ⟨nd, rfl⟩⟩; (try first | exact ⟨rfl, _, World.drewN_drewN _ _ _⟩ | exact ⟨rfl, _, Eq.trans (World.drewN_drewN _ _ _) (congrArg (World.drewN _) (Nat.add_assoc _ _ _))⟩)))
                  go_wp2
                  go_roundg (gk - 1)
                  case measure => have := HK.out.1; have := HX2.out.1; omega
                  case rel => exact ⟨x + 1, 0, by first | rfl | rw [HX.out], rfl, ⟨.inl ⟨rfl, by have := HK.out.1; have := HX2.out.1; omega, by have := HX2.out.1; omega, HE.out⟩⟩, ⟨(by repeat (first | (with_reducible exact HB.out) | apply pw_below_drewN | apply below_drew))⟩⟩
            · have c3b : decide ((x : Int) < (l2.length : Int)) = false := decide_eq_false (by omega)
              have c3n : decide (x < l2.length) = false := decide_eq_false c3
              have HE : Aside0 (eachB a0 [] l2 = true) := ⟨by rw [h3, List.drop_eq_nil_of_le (by omega)]; rfl⟩
              have HF2 : Aside0 (canM (maskL l1) l2 z = r1 ∧ 0 = r2) := ⟨by
                have := HF.out
                rw [if_pos ⟨HLE.out, HE.out⟩] at this
                simp only [Option.some.injEq, Prod.mk.injEq] at this
                exact this⟩
              have HI12 : Aside0 (∀ x ∈ l2, 0 ≤ x ∧ x < 12) := ⟨fun x hx => by
                have := ((eachB_iff a0 l2 []).1 HE.out).1 x hx
                have := HN.out.1
                omega⟩
              clear c3 h1 h2 h3
              go_wp2_with (first | (go_at_call 53; refine (hov.out _ HB.out).mono ?_; rintro e w3 ⟨rfl, hb3⟩; have HB3 := Aside0.mk (below_alloc (HB.out.trans (hb3.mono HB.out.size)) (.cells #[.int .u16 m0, .int .u16 m1, .int .u16 m2, .int .u16 m3, .int .u16 m4, .int .u16 m5, .int .u16 m6, .int .u16 m7, .int .u16 m8, .int .u16 m9, .int .u16 m10, .int .u16 m11] 59)); have HC3 := Aside0.mk (blk_new w3 (.cells #[.int .u16 m0, .int .u16 m1, .int .u16 m2, .int .u16 m3, .int .u16 m4, .int .u16 m5, .int .u16 m6, .int .u16 m7, .int .u16 m8, .int .u16 m9, .int .u16 m10, .int .u16 m11] 59)); clear hb3) | (go_at_call 68; refine (hal.out _).mono ?_; rintro e w4 ⟨rfl, hd⟩; have HB4 := Aside0.mk (HB3.out.trans (hd.below.mono HB3.out.size)); have HC4 := Aside0.mk ((hd.below.block _ (blk_lt HC3.out)).trans HC3.out); clear hd))
              clear HB HB3 HC3 c3b c3n hin hha hov hal has
              generalize w3.heap.size = p at *
              go_loopg [11, 12] l2.length (fun gk v11 v12 w' => ∃ (x : Nat) (s : Int), v12 = .int .i64 x ∧ v11 = .int .u16 s ∧ Aside0 (x + gk = l2.length) ∧ Aside0 (canM (maskL l1) l2 z = canM (maskL l1) (l2.drop x) s) ∧ Aside0 (w'.heap[p]? = some (.cells #[.int .u16 m0, .int .u16 m1, .int .u16 m2, .int .u16 m3, .int .u16 m4, .int .u16 m5, .int .u16 m6, .int .u16 m7, .int .u16 m8, .int .u16 m9, .int .u16 m10, .int .u16 m11] 59 (0, 0))) ∧ Aside0 (Below w.heap.size w w'))
              case atStart => exact ⟨0, z, rfl, rfl, ⟨by omega⟩, ⟨rfl⟩, HC4, HB4⟩
              case round =>
                clear HB4 HC4
                obtain ⟨x, s, rfl, rfl, HK, HS, HC, HB⟩ := hrel
                by_cases c3 : x < l2.length
                · obtain ⟨ad1, e1, hx1⟩ := Kd.at_int HR2.out (x : Int) (by omega) (by omega)
                  cases e1
                  replace hx1 := (HB.out.cell (World.block_lt_of_cell? w _ hx1)).trans hx1
                  simp only [Int.toNat_natCast] at hx1
                  have hy12 := HI12.out (l2[x]) (List.getElem_mem c3)
                  have hrd : rd l2 (x : Int) = l2[x] := by rw [rd, Int.toNat_natCast, List.getD_eq_getElem?_getD, List.getElem?_eq_getElem c3]; rfl
                  obtain ⟨y, hy⟩ : ∃ y : Nat, l2[x] = (y : Int) := ⟨(l2[x]).toNat, by omega⟩
                  have hdr : l2.drop x = (y : Int) :: l2.drop (x + 1) := by rw [List.drop_eq_getElem_cons c3, hy]
                  rw [hrd, hy] at hx1
                  have hyn : y < 12 := by omega
                  have hcy := hcell.out _ _ _ HC.out hyn
                  obtain ⟨d, hd⟩ : ∃ d, d = rd (maskL l1) (y : Int) := ⟨_, rfl⟩
                  rw [← hd] at hcy
                  have HX : Aside0 (wrap64 ((x : Int) + 1) = ((x + 1 : Nat) : Int)) := ⟨by have := HN.out.2; unfold wrap64; omega⟩
                  have c3b : decide ((x : Int) < (l2.length : Int)) = true := decide_eq_true (by omega)
                  have c3n : decide (x < l2.length) = true := decide_eq_true c3
                  have p0b : decide (0 ≤ (x : Int)) = true := decide_eq_true (by omega)
                  have p0c : decide (0 ≤ (y : Int)) = true := decide_eq_true (by omega)
                  have hyi : (y : Int) < 12 := by omega
                  have HL := Aside0.mk c3
                  by_cases ct : Go.bits .and .u16 d s = 0
                  · have HS2 : Aside0 (canM (maskL l1) l2 z = canM (maskL l1) (l2.drop (x + 1)) (Go.bits .andNot .u16 s (IntKind.u16.wrap (2 ^ y)))) := ⟨by rw [HS.out, hdr, canM, ← hd, if_pos ct, Int.toNat_natCast]⟩
                    have ctb : (Go.bits .and .u16 d s != 0) = false := bne_eq_false_iff_eq.mpr ct
                    clear ct hd hdr hrd hy hy12
                    go_wp2
                    go_roundg (gk - 1)
                    case measure => have := HK.out; have := HL.out; omega
                    case rel => exact ⟨x + 1, _, by first | rfl | rw [HX.out], rfl, ⟨by have := HK.out; have := HL.out; omega⟩, HS2, HC, HB⟩
                  · have HS2 : Aside0 (canM (maskL l1) l2 z = false) := ⟨by rw [HS.out, hdr, canM, ← hd, if_neg ct]⟩
                    have ctb : (Go.bits .and .u16 d s != 0) = true := bne_iff_ne.mpr ct
                    clear ct hd hdr hrd hy hy12
                    go_wp2
                    exact bodyPost_ret (v := .tuple #[.bool false, .int .i64 0]) (by simp [results, Try.results31, go_sem]) rfl ⟨by rw [← HF2.out.2, ← HF2.out.1, HS2.out], HB.out⟩
                · have c3b : decide ((x : Int) < (l2.length : Int)) = false := decide_eq_false (by omega)
                  have c3n : decide (x < l2.length) = false := decide_eq_false c3
                  have HS2 : Aside0 (canM (maskL l1) l2 z = true) := ⟨by rw [HS.out, List.drop_eq_nil_of_le (by omega)]; rfl⟩
                  clear c3
                  go_wp2
                  exact bodyPost_ret (v := .tuple #[.bool true, .int .i64 0]) (by simp [results, Try.results31, go_sem]) rfl ⟨by rw [← HF2.out.2, ← HF2.out.1, HS2.out], HB.out⟩
          · clear HI
            subst h0
            have HE := Aside0.mk h1
            clear h1
            by_cases c3 : x < l2.length
            · have c3b : decide ((x : Int) < (l2.length : Int)) = true := decide_eq_true (by omega)
              have c3n : decide (x < l2.length) = true := decide_eq_true c3
              clear c3
              go_wp2
              exact bodyPost_ret (v := .tuple #[.bool false, .int .i64 4]) (by simp [results, Try.results31, go_sem]) rfl ⟨by
                have := HF.out
                rw [if_neg (fun g => by rw [HE.out] at g; cases g.2)] at this
                simp only [Option.some.injEq, Prod.mk.injEq] at this
                rw [← this.1, ← this.2], HB.out⟩
            · have c3b : decide ((x : Int) < (l2.length : Int)) = false := decide_eq_false (by omega)
              have c3n : decide (x < l2.length) = false := decide_eq_false c3
              clear c3
              go_wp2
              exact bodyPost_ret (v := .tuple #[.bool false, .int .i64 4]) (by simp [results, Try.results31, go_sem]) rfl ⟨by
                have := HF.out
                rw [if_neg (fun g => by rw [HE.out] at g; cases g.2)] at this
                simp only [Option.some.injEq, Prod.mk.injEq] at this
                rw [← this.1, ← this.2], HB.out⟩
      · have HF2 : Aside0 (false = r1 ∧ 4 = r2) := ⟨by
          have := HF.out
          rw [if_neg (fun g => hle g.1)] at this
          simp only [Option.some.injEq, Prod.mk.injEq] at this
          exact this⟩
        have cne : ((l2.length : Int) != a0) = true := bne_iff_ne.mpr hle
        clear hle
        go_enter Try.func31, Try.ntmps31
        go_wp2_with (first | (go_at_call 51; refine (has.out _ HB.out).mono ?_; rintro e w2 ⟨rfl, hb2⟩; have HB2 := Aside0.mk (HB.out.trans (hb2.mono HB.out.size)); clear hb2))
        go_loopg [8, 9] 1 (fun gk v8 v9 w' => v8 = .int .i64 4 ∧ v9 = .int .i64 0 ∧ Aside0 (Below w.heap.size w w'))
        case atStart => exact ⟨rfl, rfl, HB2⟩
        case round =>
          clear HB2 HB
          obtain ⟨rfl, rfl, HB⟩ := hrel
          by_cases c9 : 0 < l2.length
          · have c9b : decide (0 < (l2.length : Int)) = true := decide_eq_true (by omega)
            have c9n : decide (0 < l2.length) = true := decide_eq_true c9
            clear c9
            go_wp2
            exact bodyPost_ret (v := .tuple #[.bool false, .int .i64 4]) (by simp [results, Try.results31, go_sem]) rfl ⟨by rw [← HF2.out.1, ← HF2.out.2], HB.out⟩
          · have c9b : decide (0 < (l2.length : Int)) = false := decide_eq_false (by omega)
            have c9n : decide (0 < l2.length) = false := decide_eq_false c9
            clear c9
            go_wp2
            exact bodyPost_ret (v := .tuple #[.bool false, .int .i64 4]) (by simp [results, Try.results31, go_sem]) rfl ⟨by rw [← HF2.out.1, ← HF2.out.2], HB.out⟩
    · rw [if_neg hg] at h; cases h
  · rw [if_neg hc0] at h
    simp only [Option.some.injEq, Prod.mk.injEq] at h
    obtain ⟨rfl, rfl⟩ := h
    have hcb : (c == 0) = false := beq_eq_false_iff_ne.mpr hc0
    have hcb' : (c != 0) = true := bne_iff_ne.mpr hc0
    clear hr1 hc1 hc hc0 hr2 hc2
    go_enter Try.func31, Try.ntmps31
    go_wp2_with (first | (go_at_call 51; refine (has.out _ HB.out).mono ?_; rintro e w2 ⟨rfl, hb2⟩; have HB2 := Aside0.mk (HB.out.trans (hb2.mono HB.out.size)); clear hb2))
    go_loopg [8, 9] 1 (fun gk v8 v9 w' => v8 = .int .i64 c ∧ v9 = .int .i64 0 ∧ Aside0 (Below w.heap.size w w'))
    case atStart => exact ⟨rfl, rfl, HB2⟩
    case round =>
      obtain ⟨rfl, rfl, HB⟩ := hrel
      by_cases c9 : 0 < l2.length
      · have c9b : decide (0 < (l2.length : Int)) = true := decide_eq_true (by omega)
        have c9n : decide (0 < l2.length) = true := decide_eq_true c9
        clear c9
        go_wp2
        exact bodyPost_ret (v := .tuple #[.bool false, .int .i64 c]) (by simp [results, Try.results31, go_sem]) rfl ⟨rfl, HB.out⟩
      · have c9b : decide (0 < (l2.length : Int)) = false := decide_eq_false (by omega)
        have c9n : decide (0 < l2.length) = false := decide_eq_false c9
        clear c9
        go_wp2
        exact bodyPost_ret (v := .tuple #[.bool false, .int .i64 c]) (by simp [results, Try.results31, go_sem]) rfl ⟨rfl, HB.out⟩

/-! ### impl_isChain: function 86 -/
def impl_isChain.f (a0 : Int) (a1 : Int) : Option (Bool) := if a1 ≥ 0 then (some (decide (a1 < a0))) else (some false)
set_option maxHeartbeats 8000000 in
set_option maxRecDepth 100000 in
theorem impl_isChain.calls (a0 : Int) (a1 : Int) (r : Bool) (w : World) (h : impl_isChain.f a0 a1 = some r) :
    Calls Try.prog 86 #[.int .i64 a0, .int .i64 a1] w fun e w' => e = .returned (.bool r) ∧ Drawn0 w w' := by
  have H : (if a1 ≥ 0 then (some (decide (a1 < a0))) else (some false)) = some r := h
  clear h
  by_cases c3 : a1 ≥ 0
  · rw [if_pos c3] at H
    have c3b0 : decide (0 ≤ a1) = true := decide_eq_true c3
    clear c3
    obtain rfl := Option.some.inj H
    go_enter Try.func86, Try.ntmps86
    go_wp2
    go_ret
    exact ⟨by first | rfl | (simp; done) | (simp [*]; done), by repeat (first | exact Drawn0.refl _ | apply Drawn0.step)⟩
  · rw [if_neg c3] at H
    have c3b0 : decide (0 ≤ a1) = false := decide_eq_false c3
    clear c3
    obtain rfl := Option.some.inj H
    go_enter Try.func86, Try.ntmps86
    go_wp2
    go_ret
    exact ⟨by first | rfl | (simp; done) | (simp [*]; done), by repeat (first | exact Drawn0.refl _ | apply Drawn0.step)⟩

/-! ### impl_Cover_116: function 116 -/
def impl_Cover_116.l0 : Nat → List (S64) → Int → Int → Int → Int → Option (Int)
  | 0, _, _, _, _, _ => none
  | k + 1, x0, x7, x8, x132000, x132001 => if x8 < x7 then (if 0 ≤ x8 then (if x8 < (x0.length : Int) then (if (x132000 == ((rd_T64 x0 x8).f0) && (x132001 == ((rd_T64 x0 x8).f1))) = true then (some x8) else (impl_Cover_116.l0 k x0 x7 (wrap64 (x8 + 1)) x132000 x132001)) else (none)) else (none)) else (some (-1))
def impl_Cover_116.f (k : Nat) (l0 : List (S64)) (a1_0 : Int) (a1_1 : Int) : Option (Int) := impl_Cover_116.l0 k l0 (l0.length : Int) 0 a1_0 a1_1
theorem impl_Cover_116.mono_l : ∀ k, (∀ y0 y1 y2 y3 y4, LeO (impl_Cover_116.l0 k y0 y1 y2 y3 y4) (impl_Cover_116.l0 (k + 1) y0 y1 y2 y3 y4))
  | 0 => fun _ _ _ _ _ r h => by simp [impl_Cover_116.l0] at h
  | k + 1 => by
    have ih0 := impl_Cover_116.mono_l k
    · intro y0 y1 y2 y3 y4
      unfold impl_Cover_116.l0
      repeat' first
      | (with_reducible exact ih0 _ _ _ _ _)
      | (with_reducible exact LeO.refl _)
      | (with_reducible exact LeO.none _)
      | (with_reducible refine LeO.ite ?_ ?_)
      | (with_reducible refine LeO.bind ?_ (fun _ => ?_))
      | exact ih0 _ _ _ _ _
      | exact LeO.none _
      | refine LeO.ite ?_ ?_
      | refine LeO.bind ?_ (fun _ => ?_)
theorem impl_Cover_116.mono : ∀ a0 a1 a2 k, LeO (impl_Cover_116.f k a0 a1 a2) (impl_Cover_116.f (k + 1) a0 a1 a2) := by
  intro a0 a1 a2 k
  have ih0 := impl_Cover_116.mono_l k
  unfold impl_Cover_116.f
  repeat' first
      | (with_reducible exact ih0 _ _ _ _ _)
      | (with_reducible exact LeO.refl _)
      | (with_reducible exact LeO.none _)
      | (with_reducible refine LeO.ite ?_ ?_)
      | (with_reducible refine LeO.bind ?_ (fun _ => ?_))
      | exact ih0 _ _ _ _ _
      | exact LeO.none _
      | refine LeO.ite ?_ ?_
      | refine LeO.bind ?_ (fun _ => ?_)
set_option maxHeartbeats 8000000 in
set_option maxRecDepth 100000 in
theorem impl_Cover_116.calls (k : Nat) (A0 : Option Addr) (c0 : Nat) (l0 : List (S64)) (a1_0 : Int) (a1_1 : Int) (r : Int) (w : World) (hr0 : Kd.C k64 w A0 l0.length l0) (hc0 : l0.length ≤ c0) (h : impl_Cover_116.f k l0 a1_0 a1_1 = some r) :
    Calls Try.prog 116 #[.slice A0 l0.length c0, .agg #[.int .i8 a1_0, .int .i8 a1_1]] w fun e w' => e = .returned (.int .i64 r) ∧ Below w.heap.size w w' := by
  have hu64 := Try.underlying64
  have HR0 := Aside0.mk hr0
  have HC0 := Aside0.mk hc0
  clear hr0 hc0
  have HB := Aside0.mk (Below.refl w.heap.size w)
  have H : (impl_Cover_116.l0 k l0 (l0.length : Int) 0 a1_0 a1_1) = some r := h
  clear h
  have H' := Aside0.mk H
  clear H
  go_enter Try.func116, Try.ntmps116
  go_wp2_with (first | ((with_reducible refine gate_dst (N := 3) rfl ?_); refine box_event ?hg (N := 3) ?hd (cs := #[.int .i8 a1_0, .int .i8 a1_1]) (t := 64) ?hr ?_; (case hd => rfl); (case hg => rfl); (case hr => first | (go_simp; done) | (go_simp; rfl)); intro gb131 hg w3 hbox hb; have n0_ := Aside0.mk (below_step (by repeat (first | (with_reducible first | exact HB.out | apply below_alloc | apply pw_below_drewN | apply below_drew1) | exact HB.out)) hb); have n1_ := Aside0.mk (hbox); have n2_ := Aside0.mk ((by rw [hg]; exact (below_size (by repeat (first | (with_reducible first | exact HB.out | apply below_alloc | apply pw_below_drewN | apply below_drew1) | exact HB.out))) : w.heap.size ≤ gb131)); have n3_ := Aside0.mk ((by rw [hg]; exact (below_size (by repeat (first | (with_reducible first | exact HB.out | apply below_alloc | apply pw_below_drewN | apply below_drew1) | exact HB.out))) : w.heap.size ≤ gb131)); clear HB; have HB := n0_; have BK131 := n1_; have GW131 := n2_; have GE131 := n3_; clear n0_ n1_ n2_ n3_; clear hb hbox hg))
  repeat (go_quiet (first | ((with_reducible refine gate_dst (N := 3) rfl ?_); refine box_event ?hg (N := 3) ?hd (cs := #[.int .i8 a1_0, .int .i8 a1_1]) (t := 64) ?hr ?_; (case hd => rfl); (case hg => rfl); (case hr => first | (go_simp; done) | (go_simp; rfl)); intro gb131 hg w3 hbox hb; have n0_ := Aside0.mk (below_step (by repeat (first | (with_reducible first | exact HB.out | apply below_alloc | apply pw_below_drewN | apply below_drew1) | exact HB.out)) hb); have n1_ := Aside0.mk (hbox); have n2_ := Aside0.mk ((by rw [hg]; exact (below_size (by repeat (first | (with_reducible first | exact HB.out | apply below_alloc | apply pw_below_drewN | apply below_drew1) | exact HB.out))) : w.heap.size ≤ gb131)); have n3_ := Aside0.mk ((by rw [hg]; exact (below_size (by repeat (first | (with_reducible first | exact HB.out | apply below_alloc | apply pw_below_drewN | apply below_drew1) | exact HB.out))) : w.heap.size ≤ gb131)); clear HB; have HB := n0_; have BK131 := n1_; have GW131 := n2_; have GE131 := n3_; clear n0_ n1_ n2_ n3_; clear hb hbox hg)); try go_wp2_with (first | ((with_reducible refine gate_dst (N := 3) rfl ?_); refine box_event ?hg (N := 3) ?hd (cs := #[.int .i8 a1_0, .int .i8 a1_1]) (t := 64) ?hr ?_; (case hd => rfl); (case hg => rfl); (case hr => first | (go_simp; done) | (go_simp; rfl)); intro gb131 hg w3 hbox hb; have n0_ := Aside0.mk (below_step (by repeat (first | (with_reducible first | exact HB.out | apply below_alloc | apply pw_below_drewN | apply below_drew1) | exact HB.out)) hb); have n1_ := Aside0.mk (hbox); have n2_ := Aside0.mk ((by rw [hg]; exact (below_size (by repeat (first | (with_reducible first | exact HB.out | apply below_alloc | apply pw_below_drewN | apply below_drew1) | exact HB.out))) : w.heap.size ≤ gb131)); have n3_ := Aside0.mk ((by rw [hg]; exact (below_size (by repeat (first | (with_reducible first | exact HB.out | apply below_alloc | apply pw_below_drewN | apply below_drew1) | exact HB.out))) : w.heap.size ≤ gb131)); clear HB; have HB := n0_; have BK131 := n1_; have GW131 := n2_; have GE131 := n3_; clear n0_ n1_ n2_ n3_; clear hb hbox hg)))
  go_loopg [8] k (fun kq v8 w' => ∃ (x8_1 : Int), v8 = .int .i64 x8_1 ∧ Aside0 (impl_Cover_116.l0 kq l0 (l0.length : Int) x8_1 a1_0 a1_1 = some r) ∧ Aside0 (kq ≤ k) ∧ Aside0 (w'.heap[gb131]? = some (.cells #[.int .i8 a1_0, .int .i8 a1_1] 64 (0, 0))) ∧ Aside0 (Below w.heap.size w w'))
  case atStart => exact ⟨(0), (by first | rfl | (simp; done) | (simp [*]; done)), H', ⟨Nat.le_refl _⟩, ⟨by (with_reducible repeat (first | refine blk_drewN ?_ _ | refine blk_drew ?_ | refine blk_alloc ?_ _)); exact BK131.out⟩, ⟨by repeat (first | (with_reducible first | exact HB.out | apply below_alloc | apply pw_below_drewN | apply below_drew1 | refine below_set ?_ GE131.out) | exact HB.out)⟩⟩
  case round =>
    clear H'
    try clear c1
    try clear p2
    obtain ⟨x8_1, rfl, HA, HK1, BK131, HB⟩ := hrel
    cases gk with
    | zero => exact absurd HA.out (by simp [impl_Cover_116.l0])
    | succ k1 =>
      have H := HA.out
      clear HA
      simp only [impl_Cover_116.l0] at H
      by_cases c4 : x8_1 < (l0.length : Int)
      · rw [if_pos c4] at H
        have c4b0 : decide (x8_1 < (l0.length : Int)) = true := decide_eq_true c4
        clear c4
        by_cases c5 : 0 ≤ x8_1
        · rw [if_pos c5] at H
          have c5b0 : decide (0 ≤ x8_1) = true := decide_eq_true c5
          clear c5
          by_cases c6 : x8_1 < (l0.length : Int)
          · rw [if_pos c6] at H
            have c6b0 : decide (x8_1 < (l0.length : Int)) = true := decide_eq_true c6
            clear c6
            by_cases c7 : (a1_0 == ((rd_T64 l0 x8_1).f0) && (a1_1 == ((rd_T64 l0 x8_1).f1))) = true
            · rw [if_pos c7] at H
              have c7b0 : (a1_0 == ((rd_T64 l0 x8_1).f0) && (a1_1 == ((rd_T64 l0 x8_1).f1))) = true := c7
              (try (have c7b1 : decide (a1_0 = ((rd_T64 l0 x8_1).f0) && (a1_1 == ((rd_T64 l0 x8_1).f1))) = true := by simpa using c7))
              (try (have c7b2 : (a1_0 == ((rd_T64 l0 x8_1).f0) && (a1_1 == ((rd_T64 l0 x8_1).f1))) = true := by simpa using c7))
              clear c7
              obtain rfl := Option.some.inj H
              have hcz8_0 : wr.cell? ⟨gb131, 0, none⟩ = some (.int .i8 a1_0) := (blk_cell BK131.out 0).trans rfl
              have hcz8_1 : wr.cell? ⟨gb131, 1, none⟩ = some (.int .i8 a1_1) := (blk_cell BK131.out 1).trans rfl
              have hfz8_0 := blk_frozen BK131.out 0
              have hfz8_1 := blk_frozen BK131.out 1
              have p132 : 0 ≤ (x8_1 : Int) := of_decide_eq_true (by first | (with_reducible assumption) | assumption)
              have q132 : x8_1 < (l0.length : Int) := of_decide_eq_true (by first | (with_reducible assumption) | assumption)
              obtain ⟨ad132, e132, hx132_0, hx132_1⟩ := at_T64 HR0.out x8_1 p132 q132
              cases e132
              replace hx132_0 := (HB.out.cell (World.block_lt_of_cell? w _ hx132_0)).trans hx132_0
              replace hx132_1 := (HB.out.cell (World.block_lt_of_cell? w _ hx132_1)).trans hx132_1
              replace p132 := eq_true p132
              replace q132 := eq_true q132
              go_wp2
              repeat (go_quiet (fail); try go_wp2)
              go_ret
              exact ⟨by first | rfl | (simp [errW_none, errW_some] <;> rfl) | (simp [*, errW_none, errW_some] <;> rfl), by repeat (first | (with_reducible first | exact HB.out | apply below_alloc | apply pw_below_drewN | apply below_drew1 | refine below_set ?_ GE131.out) | exact HB.out)⟩
            · rw [if_neg c7] at H
              have c7b0 : (a1_0 == ((rd_T64 l0 x8_1).f0) && (a1_1 == ((rd_T64 l0 x8_1).f1))) = false := by simpa using c7
              (try (have c7b1 : decide (a1_0 = ((rd_T64 l0 x8_1).f0) && (a1_1 == ((rd_T64 l0 x8_1).f1))) = false := by simpa using c7))
              (try (have c7b2 : (a1_0 == ((rd_T64 l0 x8_1).f0) && (a1_1 == ((rd_T64 l0 x8_1).f1))) = false := by simpa using c7))
              (try (have c7b3 : ¬ (a1_0 = ((rd_T64 l0 x8_1).f0) && (a1_1 == ((rd_T64 l0 x8_1).f1))) := by simpa using c7))
              clear c7
              have H' := Aside0.mk H
              clear H
              have hcz9_0 : wr.cell? ⟨gb131, 0, none⟩ = some (.int .i8 a1_0) := (blk_cell BK131.out 0).trans rfl
              have hcz9_1 : wr.cell? ⟨gb131, 1, none⟩ = some (.int .i8 a1_1) := (blk_cell BK131.out 1).trans rfl
              have hfz9_0 := blk_frozen BK131.out 0
              have hfz9_1 := blk_frozen BK131.out 1
              have p132 : 0 ≤ (x8_1 : Int) := of_decide_eq_true (by first | (with_reducible assumption) | assumption)
              have q132 : x8_1 < (l0.length : Int) := of_decide_eq_true (by first | (with_reducible assumption) | assumption)
              obtain ⟨ad132, e132, hx132_0, hx132_1⟩ := at_T64 HR0.out x8_1 p132 q132
              cases e132
              replace hx132_0 := (HB.out.cell (World.block_lt_of_cell? w _ hx132_0)).trans hx132_0
              replace hx132_1 := (HB.out.cell (World.block_lt_of_cell? w _ hx132_1)).trans hx132_1
              replace p132 := eq_true p132
              replace q132 := eq_true q132
              go_wp2
              repeat (go_quiet (fail); try go_wp2)
              go_roundg k1
              case measure => have := HK1.out; omega
              case rel => exact ⟨(wrap64 (x8_1 + 1)), (by first | rfl | (simp; done) | (simp [*]; done)), H', ⟨by have := HK1.out; omega⟩, ⟨by (with_reducible repeat (first | refine blk_drewN ?_ _ | refine blk_drew ?_ | refine blk_alloc ?_ _)); exact BK131.out⟩, ⟨by repeat (first | (with_reducible first | exact HB.out | apply below_alloc | apply pw_below_drewN | apply below_drew1 | refine below_set ?_ GE131.out) | exact HB.out)⟩⟩
          · rw [if_neg c6] at H
            exact absurd H (by simp)
        · rw [if_neg c5] at H
          exact absurd H (by simp)
      · rw [if_neg c4] at H
        have c4b0 : decide (x8_1 < (l0.length : Int)) = false := decide_eq_false c4
        clear c4
        obtain rfl := Option.some.inj H
        go_wp2
        repeat (go_quiet (fail); try go_wp2)
        go_ret
        exact ⟨by first | rfl | (simp [errW_none, errW_some] <;> rfl) | (simp [*, errW_none, errW_some] <;> rfl), by repeat (first | (with_reducible first | exact HB.out | apply below_alloc | apply pw_below_drewN | apply below_drew1 | refine below_set ?_ GE131.out) | exact HB.out)⟩

end Go.Proofs.Ytjcdgimldhodiaa.PFnExactCanLeave
