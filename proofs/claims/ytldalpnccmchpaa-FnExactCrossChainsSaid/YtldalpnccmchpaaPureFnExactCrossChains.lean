/- The program's CrossChains returns what the reference's CrossChains returns, for all pairs of chains (of at most 2^20 places together; longer ones the law lets by). -/
import Derived.Test.YtldalpnccmchpaaPFnExactCrossChainsx8
namespace Go.Proofs.Ytldalpnccmchpaa.Pure
open Go.RowKit Go.Proofs.Ytldalpnccmchpaa.PFnExactCrossChains Go.Proofs.YtldalpnccmchpaaW.PrintWords Go.Proofs.YtldalpnccmchpaaW.PrintLast Go.Proofs.YtldalpnccmchpaaW.PrintMore
set_option linter.unusedVariables false
set_option linter.unusedSimpArgs false

theorem of_drop {α : Type} {xs : List α} {p : Nat} {x : α} {rest : List α} (h : xs.drop p = x :: rest) : p < xs.length ∧ xs.drop (p + 1) = rest ∧ ∀ d, xs.getD ((p : Int)).toNat d = x := by
  have hp : p < xs.length := by
    rcases Nat.lt_or_ge p xs.length with h1 | h1
    · exact h1
    · rw [List.drop_eq_nil_of_le h1] at h; cases h
  rw [List.drop_eq_getElem_cons hp] at h
  injection h with h1 h2
  refine ⟨hp, h2, fun d => ?_⟩
  rw [Int.toNat_natCast, List.getD_eq_getElem?_getD, List.getElem?_eq_getElem hp]
  exact h1

theorem of_drop_nil {α : Type} {xs : List α} {p : Nat} (h : xs.drop p = []) : xs.length ≤ p := List.drop_eq_nil_iff.1 h

theorem step64 {p n : Nat} (h : p < n) (hn : n ≤ 1152921504606846976) : wrap64 ((p : Int) + 1) = ((p + 1 : Nat) : Int) := by
  unfold wrap64
  omega

theorem take_set_at {α : Type} (ys : List α) (p : Nat) (v : α) (h : p < ys.length) : (ys.set p v).take (p + 1) = ys.take p ++ [v] := by
  rw [List.take_succ_eq_append_getElem (by simpa using h), List.take_set_of_le (Nat.le_refl _)]
  simp

theorem i8_in {a : Int} (h : (Lit.int .i8 a).wf = true) : -128 ≤ a ∧ a ≤ 127 := by
  simp [Lit.wf, IntKind.min, IntKind.max, IntKind.signed, IntKind.bits] at h
  omega

theorem i64_in {a : Int} (h : (Lit.int .i64 a).wf = true) : -9223372036854775808 ≤ a ∧ a ≤ 9223372036854775807 := by
  simp [Lit.wf, IntKind.min, IntKind.max, IntKind.signed, IntKind.bits] at h
  omega

theorem w64_id {a : Int} (h : -9223372036854775808 ≤ a ∧ a ≤ 9223372036854775807) : wrap64 a = a := by
  unfold wrap64
  omega

theorem w8_cases (a : Int) : IntKind.i8.wrap a = if a % 256 ≥ 128 then a % 256 - 256 else a % 256 := by
  simp [IntKind.wrap, IntKind.signed, IntKind.bits]

theorem some_dec {p q : Prop} [Decidable p] [Decidable q] (h : p ↔ q) : some (decide p) = some (decide q) := by rw [decide_eq_decide.2 h]
theorem some_decF {q : Prop} [Decidable q] (h : ¬ q) : some false = some (decide q) := by rw [decide_eq_false h]
theorem some_decT {q : Prop} [Decidable q] (h : q) : some true = some (decide q) := by rw [decide_eq_true h]

def cvP (x : S76) : S41 := ⟨x.f0, x.f1⟩

theorem toPlaceS_l0 (l : List S76) (hl : l.length ≤ 1152921504606846976) : ∀ (rest : List S76) (p k : Nat) (ys : List S41), l.drop p = rest → ys.length = l.length → rest.length < k →
    laws_toPlaceS.l0 k l ys (p : Int) = some (ys.take p ++ rest.map cvP) := by
  intro rest
  induction rest with
  | nil =>
    intro p k ys hd hy hk
    obtain ⟨k, rfl⟩ : ∃ m, k = m + 1 := ⟨k - 1, by simp at hk; omega⟩
    have := of_drop_nil hd
    simp only [laws_toPlaceS.l0]
    rw [if_neg (by omega), List.take_of_length_le (by omega)]
    simp
  | cons x rest ih =>
    intro p k ys hd hy hk
    simp only [List.length_cons] at hk
    obtain ⟨k, rfl⟩ : ∃ m, k = m + 1 := ⟨k - 1, by omega⟩
    obtain ⟨hp, hd', hx⟩ := of_drop hd
    simp only [laws_toPlaceS.l0, laws_toPlace.f, rd_T76, hx, Option.bind_some]
    rw [if_pos (by omega), if_pos (by omega), if_pos (by omega), step64 hp hl, ih (p + 1) k _ hd' (by simpa using hy) (by omega), Int.toNat_natCast, take_set_at _ _ _ (by omega)]
    simp [cvP]

theorem toPlaceS_is (l : List S76) (hl : l.length ≤ 93824992236885) (k : Nat) (hk : l.length < k) : laws_toPlaceS.f k l = some (l.map cvP) := by
  unfold laws_toPlaceS.f
  rw [if_pos (by omega), if_pos (by omega)]
  have := toPlaceS_l0 l (by omega) l 0 k (List.replicate (l.length : Int).toNat z41) rfl (by simp) hk
  simpa using this

theorem eqPlaceS_l0 (l : List S41) (hl : l.length ≤ 1152921504606846976) : ∀ (rest : List S41) (p k : Nat), l.drop p = rest → rest.length < k → laws_eqPlaceS.l0 k l l (p : Int) = some true := by
  intro rest
  induction rest with
  | nil =>
    intro p k hd hk
    obtain ⟨k, rfl⟩ : ∃ m, k = m + 1 := ⟨k - 1, by simp at hk; omega⟩
    have := of_drop_nil hd
    simp only [laws_eqPlaceS.l0]
    rw [if_neg (by omega)]
  | cons x rest ih =>
    intro p k hd hk
    simp only [List.length_cons] at hk
    obtain ⟨k, rfl⟩ : ∃ m, k = m + 1 := ⟨k - 1, by omega⟩
    obtain ⟨hp, hd', hx⟩ := of_drop hd
    simp only [laws_eqPlaceS.l0, laws_eqPlace.f, if_true, Option.bind_some]
    rw [if_pos (by omega), if_pos (by omega), if_pos (by omega), step64 hp hl]
    exact ih (p + 1) k hd' (by omega)

theorem eqPlaceS_is (l : List S41) (hl : l.length ≤ 1152921504606846976) (k : Nat) (hk : l.length < k) : laws_eqPlaceS.f k l l = some true := by
  unfold laws_eqPlaceS.f
  rw [if_pos rfl]
  exact eqPlaceS_l0 l hl l 0 k rfl hk

theorem szPlaceS_is (l : List S76) (a : Int) (hl : l.length ≤ 93824992236885) (h0 : 0 ≤ a) (h1 : a ≤ 1048576) : laws_szPlaceS.f l a = some (if a < l.length then -1 else a - l.length) := by
  unfold laws_szPlaceS.f
  rw [w64_id (by omega)]
  by_cases h : a < l.length
  · rw [if_pos (by omega), if_pos h]
  · rw [if_neg (by omega), if_neg h]

theorem markPlaceS_l0 : ∀ (n p k : Nat) (l : List S41) (a : Int), l.length ≤ 1048576 → l.length = p + n → n < k → 1 ≤ a → a ≤ 4000000 + 2 * p →
    ∃ ys : List S41, laws_markPlaceS.l0 k l a (p : Int) = some (a + 2 * n, ys)
  | 0, p, k, l, a, hl, hn, hk, h0, h1 => by
    obtain ⟨k, rfl⟩ : ∃ m, k = m + 1 := ⟨k - 1, by omega⟩
    refine ⟨l, ?_⟩
    simp only [laws_markPlaceS.l0]
    rw [if_neg (by omega)]
    simp
  | n + 1, p, k, l, a, hl, hn, hk, h0, h1 => by
    obtain ⟨k, rfl⟩ : ∃ m, k = m + 1 := ⟨k - 1, by omega⟩
    simp only [laws_markPlaceS.l0, Option.bind_some]
    rw [if_pos (by omega), if_pos (by omega)]
    rw [w64_id (a := a + 1) (by omega), w64_id (a := a + 1 + 1) (by omega), step64 (show p < l.length by omega) (by omega)]
    have key : ∀ Y : List S41, Y.length = l.length → ∃ ys, laws_markPlaceS.l0 k Y (a + 1 + 1) ((p + 1 : Nat) : Int) = some (a + 2 * ((n + 1 : Nat) : Int), ys) := by
      intro Y hY
      obtain ⟨ys, e⟩ := markPlaceS_l0 n (p + 1) k Y (a + 1 + 1) (by omega) (by omega) (by omega) (by omega) (by omega)
      refine ⟨ys, ?_⟩
      rw [e]
      simp only [Option.some.injEq, Prod.mk.injEq, and_true]
      omega
    exact key _ (by simp)

theorem markPlaceS_is (l : List S41) (a : Int) (hl : l.length ≤ 1048576) (h0 : 1 ≤ a) (h1 : a ≤ 4000000) (k : Nat) (hk : l.length < k) : ∃ ys, laws_markPlaceS.f k l a = some (a + 2 * (l.length : Int), ys) := by
  unfold laws_markPlaceS.f
  exact markPlaceS_l0 l.length 0 k l a hl (by simp) hk h0 (by omega)

/-- The law, in plain Lean. -/
def FnExactCrossChains.Said : Prop := ∀ (l0 : List S76) (l1 : List S76), l0.length ≤ maxLen → l0.length * 2 ≤ 140737488351232 → (∀ x ∈ l0, (Lit.int .i8 x.f0).wf = true ∧ (Lit.int .i8 x.f1).wf = true) → l1.length ≤ maxLen → l1.length * 2 ≤ 140737488351232 → (∀ x ∈ l1, (Lit.int .i8 x.f0).wf = true ∧ (Lit.int .i8 x.f1).wf = true) → ∃ k, laws_FnExactCrossChains.f k l0 l1 = some true

def samP (x y : S41) : Bool := x.f0 == y.f0 && x.f1 == y.f1
theorem samP_eq {x y : S41} (h : samP x y = true) : x = y := by
  cases x; cases y
  simp [samP] at h
  rw [h.1, h.2]
theorem samP_ne {x y : S41} (h : samP x y = false) : x ≠ y := by
  intro e
  rw [e] at h
  simp [samP] at h

/-- The first place of x in the list, or -1. -/
def idxP (x : S41) : Int → List S41 → Int
  | _, [] => -1
  | i, y :: r => if samP x y = true then i else idxP x (i + 1) r
theorem idxP_neg (x : S41) : ∀ (r : List S41) (i : Int), 0 ≤ i → (idxP x i r < 0 ↔ x ∉ r)
  | [], i, h => by simp [idxP]
  | y :: r, i, h => by
    simp only [idxP]
    cases e : samP x y with
    | true =>
      have := samP_eq e
      rw [if_pos rfl, this]
      simp
      omega
    | false =>
      have := samP_ne e
      rw [if_neg (by simp), idxP_neg x r (i + 1) (by omega)]
      simp [this]

theorem place_l0 (l : List S41) (x : S41) (hl : l.length ≤ 1152921504606846976) : ∀ (rest : List S41) (p k : Nat), l.drop p = rest → rest.length < k → impl_Place_53.l0 k l (l.length : Int) (p : Int) x.f0 x.f1 = some (idxP x p rest) := by
  intro rest
  induction rest with
  | nil =>
    intro p k hd hk
    obtain ⟨k, rfl⟩ : ∃ m, k = m + 1 := ⟨k - 1, by simp at hk; omega⟩
    have := of_drop_nil hd
    simp only [impl_Place_53.l0, idxP]
    rw [if_neg (by omega)]
  | cons y rest ih =>
    intro p k hd hk
    simp only [List.length_cons] at hk
    obtain ⟨k, rfl⟩ : ∃ m, k = m + 1 := ⟨k - 1, by omega⟩
    obtain ⟨hp, hd', hx⟩ := of_drop hd
    simp only [impl_Place_53.l0, rd_T41, hx, idxP]
    rw [if_pos (by omega), if_pos (by omega), if_pos (by omega), step64 hp hl, ih (p + 1) k hd' (by omega)]
    show (if samP x y = true then _ else _) = _
    cases samP x y <;> simp
theorem place_is (l : List S41) (x : S41) (hl : l.length ≤ 1152921504606846976) (k : Nat) (hk : l.length < k) : impl_Place_53.f k l x.f0 x.f1 = some (idxP x 0 l) := by
  unfold impl_Place_53.f
  exact place_l0 l x hl l 0 k rfl hk

instance : DecidableEq S41 := fun x y => decidable_of_iff (samP x y = true) ⟨samP_eq, fun h => by rw [h]; simp [samP]⟩
/-- A chain as it may be laid: no place twice. -/
def laidP : List S41 → List S41 → Bool
  | _, [] => true
  | s, x :: r => if x ∈ s then false else laidP (s ++ [x]) r

theorem isLaid_l0 (l : List S41) (hl : l.length ≤ 1152921504606846976) : ∀ (rest : List S41) (p k : Nat), l.drop p = rest → rest.length + l.length + 1 < k → impl_isLaid.l0 k l l (l.length : Int) (p : Int) = some (laidP (l.take p) rest) := by
  intro rest
  induction rest with
  | nil =>
    intro p k hd hk
    obtain ⟨k, rfl⟩ : ∃ m, k = m + 1 := ⟨k - 1, by simp at hk; omega⟩
    have := of_drop_nil hd
    simp only [impl_isLaid.l0, laidP]
    rw [if_neg (by omega)]
  | cons y rest ih =>
    intro p k hd hk
    simp only [List.length_cons] at hk
    obtain ⟨k, rfl⟩ : ∃ m, k = m + 1 := ⟨k - 1, by omega⟩
    obtain ⟨hp, hd', hx⟩ := of_drop hd
    have hy : l[p] = y := by
      have := hx z41
      rw [Int.toNat_natCast, List.getD_eq_getElem?_getD, List.getElem?_eq_getElem hp] at this
      exact this
    simp only [impl_isLaid.l0, rd_T41, hx, laidP, impl_Place_68.f]
    rw [if_pos (by omega), if_pos (by omega), if_pos (by omega), if_pos (by omega), Int.toNat_natCast, step64 hp hl, place_is (l.take p) y (by simp; omega) k (by simp; omega)]
    simp only [Option.bind_some]
    have key := idxP_neg y (l.take p) 0 (by omega)
    rw [ih (p + 1) k hd' (by omega), List.take_succ_eq_append_getElem hp, hy]
    by_cases h : y ∈ l.take p
    · rw [if_pos h, if_pos]
      have : ¬ idxP y 0 (l.take p) < 0 := fun g => key.1 g h
      simp; omega
    · rw [if_neg h, if_neg]
      have : idxP y 0 (l.take p) < 0 := key.2 h
      simp; omega

def okP (l : List S41) : Bool := decide (l.length ≤ 60) && laidP [] l
theorem isLaid_is (l : List S41) (hl : l.length ≤ 1152921504606846976) (k : Nat) (hk : 2 * l.length + 1 < k) : impl_isLaid.f k l = some (okP l) := by
  unfold impl_isLaid.f okP
  by_cases h : (l.length : Int) > 60
  · rw [if_pos h]
    have : ¬ l.length ≤ 60 := by omega
    simp [this]
  · rw [if_neg h]
    have e := isLaid_l0 l hl l 0 k rfl (by omega)
    have h2 : l.length ≤ 60 := by omega
    simp only [List.take_zero, Int.ofNat_zero] at e
    have e' : impl_isLaid.l0 k l l (l.length : Int) 0 = some (laidP [] l) := e
    rw [e']
    simp [h2]

theorem line_l1 (l : List S41) (hl : l.length ≤ 1152921504606846976) (p : Nat) (hp : p < l.length) : ∀ (n q k : Nat), q + n = p → n < k →
    spec_l03Line.l1 k l (p : Int) (q : Int) = if l[p] ∈ (l.take p).drop q then some false else spec_l03Line.l0 (k - n - 1) l ((p + 1 : Nat) : Int) := by
  intro n
  induction n with
  | zero =>
    intro q k hq hk
    obtain ⟨k, rfl⟩ : ∃ m, k = m + 1 := ⟨k - 1, by omega⟩
    simp only [spec_l03Line.l1]
    rw [if_neg (by omega), step64 hp hl, List.drop_eq_nil_of_le (by simp; omega), if_neg (by simp)]
    rfl
  | succ n ih =>
    intro q k hq hk
    obtain ⟨k, rfl⟩ : ∃ m, k = m + 1 := ⟨k - 1, by omega⟩
    have hql : q < l.length := by omega
    have r1 : rd_T41 l (q : Int) = l[q] := by
      rw [rd_T41, Int.toNat_natCast, List.getD_eq_getElem?_getD, List.getElem?_eq_getElem hql]; rfl
    have r2 : rd_T41 l (p : Int) = l[p] := by
      rw [rd_T41, Int.toNat_natCast, List.getD_eq_getElem?_getD, List.getElem?_eq_getElem hp]; rfl
    have hd : (l.take p).drop q = l[q] :: (l.take p).drop (q + 1) := by
      rw [List.drop_eq_getElem_cons (by simp; omega)]
      simp
    simp only [spec_l03Line.l1, r1, r2]
    rw [if_pos (by omega), if_pos (by omega), if_pos (by omega), if_pos (by omega), if_pos (by omega), step64 hql hl, ih (q + 1) k (by omega) (by omega), hd]
    have e : k + 1 - (n + 1) - 1 = k - n - 1 := by omega
    rw [e]
    show (if samP l[q] l[p] = true then _ else _) = _
    cases h : samP l[q] l[p] with
    | true => rw [if_pos rfl, if_pos (by rw [samP_eq h]; simp)]
    | false =>
      have hne := samP_ne h
      rw [if_neg (by simp)]
      by_cases g : l[p] ∈ (l.take p).drop (q + 1)
      · rw [if_pos g, if_pos (List.mem_cons_of_mem _ g)]
      · rw [if_neg g, if_neg (fun m => by rcases List.mem_cons.1 m with m | m; exact hne m.symm; exact g m)]

theorem line_l0 (l : List S41) (hl : l.length ≤ 1152921504606846976) : ∀ (rest : List S41) (p k : Nat), l.drop p = rest → rest.length * (l.length + 2) < k → spec_l03Line.l0 k l (p : Int) = some (decide (l.length ≤ 60) && laidP (l.take p) rest) := by
  intro rest
  induction rest with
  | nil =>
    intro p k hd hk
    obtain ⟨k, rfl⟩ : ∃ m, k = m + 1 := ⟨k - 1, by omega⟩
    have := of_drop_nil hd
    simp only [spec_l03Line.l0, laidP]
    rw [if_neg (by omega)]
    have : ((l.length : Int) ≤ 60) ↔ l.length ≤ 60 := by omega
    simp [this]
  | cons y rest ih =>
    intro p k hd hk
    simp only [List.length_cons, Nat.succ_mul] at hk
    generalize hZ : rest.length * (l.length + 2) = Z at hk
    obtain ⟨k, rfl⟩ : ∃ m, k = m + 1 := ⟨k - 1, by omega⟩
    obtain ⟨hp, hd', hx⟩ := of_drop hd
    have hy : l[p] = y := by
      have := hx z41
      rw [Int.toNat_natCast, List.getD_eq_getElem?_getD, List.getElem?_eq_getElem hp] at this
      exact this
    simp only [spec_l03Line.l0, laidP]
    have e1 := line_l1 l hl p hp p 0 k (by omega) (by omega)
    rw [if_pos (by omega)]
    have e1' : spec_l03Line.l1 k l (p : Int) 0 = _ := e1
    rw [e1', hy, List.drop_zero]
    by_cases h : y ∈ l.take p
    · rw [if_pos h, if_pos h]; simp
    · rw [if_neg h, if_neg h, ih (p + 1) _ hd' (by rw [hZ]; omega), List.take_succ_eq_append_getElem hp, hy]

theorem line_is (l : List S41) (hl : l.length ≤ 1152921504606846976) (k : Nat) (hk : l.length * (l.length + 2) < k) : spec_l03Line.f k l = some (okP l) := by
  unfold spec_l03Line.f okP
  have e := line_l0 l hl l 0 k rfl hk
  have e' : spec_l03Line.l0 k l 0 = _ := e
  rw [e']
  simp

theorem laidP_nodup : ∀ (r s : List S41), laidP s r = true → r.Nodup ∧ ∀ y ∈ r, y ∉ s
  | [], s, _ => by simp
  | x :: r, s, h => by
    simp only [laidP] at h
    by_cases hx : x ∈ s
    · rw [if_pos hx] at h; cases h
    · rw [if_neg hx] at h
      obtain ⟨h1, h2⟩ := laidP_nodup r (s ++ [x]) h
      refine ⟨List.nodup_cons.2 ⟨fun m => h2 x m (by simp), h1⟩, ?_⟩
      intro y hy
      rcases List.mem_cons.1 hy with rfl | hy
      · exact hx
      · exact fun m => h2 y hy (List.mem_append_left _ m)

/-- The covers that are found so far. -/
inductive Q where | n | a | b | ab | ba
def Q.lst : Q → List S73
  | .n => [] | .a => [⟨1, 0⟩] | .b => [⟨0, 1⟩] | .ab => [⟨1, 0⟩, ⟨0, 1⟩] | .ba => [⟨0, 1⟩, ⟨1, 0⟩]
def Q.put : Bool → Q → Q
  | true, .n => .a | true, .b => .ba | true, .a => .a | true, .ab => .ab | true, .ba => .ba
  | false, .n => .b | false, .a => .ab | false, .b => .b | false, .ab => .ab | false, .ba => .ba

def crossQ (l : List S41) : Int → List S41 → Q → Q
  | _, [], q => q
  | i, x :: r, q => crossQ l (i + 1) r (if idxP x 0 l < 0 then q else q.put (decide (idxP x 0 l > i)))

def Q.has : Bool → Q → Bool
  | true, .n => false | true, .b => false | true, _ => true
  | false, .n => false | false, .a => false | false, _ => true
theorem w01 : wrap64 (0 + 1) = 1 := w64_id (by omega)
theorem w11 : wrap64 (1 + 1) = 2 := w64_id (by omega)
theorem w1' : wrap64 1 = 1 := w64_id (by omega)
theorem w2' : wrap64 2 = 2 := w64_id (by omega)
theorem w3' : wrap64 3 = 3 := w64_id (by omega)
theorem w4' : wrap64 4 = 4 := w64_id (by omega)
theorem w5' : wrap64 5 = 5 := w64_id (by omega)
theorem covA (q : Q) (k : Nat) (hk : 4 ≤ k) : impl_Cover_54.f k q.lst 1 0 = some (q.has true) := by
  obtain ⟨k, rfl⟩ : ∃ m, k = m + 4 := ⟨k - 4, by omega⟩
  cases q <;> simp [impl_Cover_54.f, impl_Cover_69.f, impl_Cover_69.l0, Q.lst, Q.has, rd_T73, w01, w11, w1', w2']
theorem covB (q : Q) (k : Nat) (hk : 4 ≤ k) : impl_Cover_54.f k q.lst 0 1 = some (q.has false) := by
  obtain ⟨k, rfl⟩ : ∃ m, k = m + 4 := ⟨k - 4, by omega⟩
  cases q <;> simp [impl_Cover_54.f, impl_Cover_69.f, impl_Cover_69.l0, Q.lst, Q.has, rd_T73, w01, w11, w1', w2']
theorem Q.put_has {b : Bool} {q : Q} (h : q.has b = true) : q.put b = q := by cases b <;> cases q <;> simp_all [Q.has, Q.put]
theorem Q.put_not {b : Bool} {q : Q} (h : q.has b = false) : (q.put b).lst = q.lst ++ [if b = true then ⟨1, 0⟩ else ⟨0, 1⟩] ∧ q.lst.length < 70368744177664 := by cases b <;> cases q <;> simp_all [Q.has, Q.put, Q.lst]

theorem implCross_l0 (l0 l : List S41) (h0 : l0.length ≤ 1048576) (hl : l.length ≤ 1048576) : ∀ (rest : List S41) (p k : Nat) (q : Q), l0.drop p = rest → rest.length + l.length + 5 < k →
    impl_CrossChains.l0 k l q.lst l0 (l0.length : Int) (p : Int) = some ((crossQ l p rest q).lst, 0) := by
  intro rest
  induction rest with
  | nil =>
    intro p k q hd hk
    obtain ⟨k, rfl⟩ : ∃ m, k = m + 1 := ⟨k - 1, by omega⟩
    have := of_drop_nil hd
    simp only [impl_CrossChains.l0, crossQ]
    rw [if_neg (by omega)]
  | cons x rest ih =>
    intro p k q hd hk
    simp only [List.length_cons] at hk
    obtain ⟨k, rfl⟩ : ∃ m, k = m + 1 := ⟨k - 1, by omega⟩
    obtain ⟨hp, hd', hx⟩ := of_drop hd
    have ec : ((p + 1 : Nat) : Int) = (p : Int) + 1 := by omega
    have I : ∀ q : Q, impl_CrossChains.l0 k l q.lst l0 (l0.length : Int) ((p + 1 : Nat) : Int) = some ((crossQ l ((p : Int) + 1) rest q).lst, 0) := fun q => by
      rw [← ec]
      exact ih (p + 1) k q hd' (by omega)
    simp only [impl_CrossChains.l0, rd_T41, hx, crossQ]
    rw [if_pos (by omega), if_pos (by omega), if_pos (by omega), step64 hp (by omega), place_is l x (by omega) _ (by omega)]
    simp only [Option.bind_some, covA q k (by omega), covB q k (by omega)]
    generalize idxP x 0 l = z
    by_cases hi : z < 0
    · rw [if_pos hi, if_neg (by omega), if_neg (by omega)]
      exact I q
    · rw [if_neg hi]
      by_cases hj : z > (p : Int)
      · rw [if_pos hj, if_pos (by omega), decide_eq_true hj]
        cases g : q.has true with
        | true => rw [if_pos rfl, Q.put_has g]; exact I q
        | false =>
          obtain ⟨g1, g2⟩ := Q.put_not g
          rw [if_neg (by simp), if_pos g2]
          rw [if_pos rfl] at g1
          rw [← g1]
          exact I _
      · rw [if_neg hj, if_pos (by omega), decide_eq_false hj]
        cases g : q.has false with
        | true => rw [if_pos rfl, Q.put_has g]; exact I q
        | false =>
          obtain ⟨g1, g2⟩ := Q.put_not g
          rw [if_neg (by simp), if_pos g2]
          rw [if_neg (by simp)] at g1
          rw [← g1]
          exact I _

def crossR (l0 l : List S41) : List S73 × Int := if okP l0 && okP l then ((crossQ l 0 l0 .n).lst, 0) else ([], 2)

theorem implCross_is (l0 l : List S41) (h0 : l0.length ≤ 1048576) (hl : l.length ≤ 1048576) (k : Nat) (hk : 2 * l0.length + 2 * l.length + 7 < k) : impl_CrossChains.f k l0 l = some (crossR l0 l) := by
  obtain ⟨k, rfl⟩ : ∃ m, k = m + 1 := ⟨k - 1, by omega⟩
  unfold impl_CrossChains.f crossR
  rw [isLaid_is l0 (by omega) _ (by omega), isLaid_is l (by omega) _ (by omega)]
  simp only [Option.bind_some, impl_CrossChains.j0]
  have e := implCross_l0 l0 l h0 hl l0 0 k .n rfl (by omega)
  have e' : impl_CrossChains.l0 k l [] l0 (l0.length : Int) 0 = _ := e
  rw [e']
  cases okP l0 <;> cases okP l <;> simp

def scanQ (x : S41) (i : Int) : Int → List S41 → Q → Q
  | _, [], q => q
  | j, y :: r, q => scanQ x i (j + 1) r (if samP x y = true then q.put (decide (j > i)) else q)
theorem scanQ_no (x : S41) (i : Int) : ∀ (r : List S41) (j : Int) (q : Q), x ∉ r → scanQ x i j r q = q
  | [], j, q, h => rfl
  | y :: r, j, q, h => by
    simp only [scanQ]
    have hne : ¬ samP x y = true := fun e => h (by rw [samP_eq e]; simp)
    rw [if_neg hne]
    exact scanQ_no x i r (j + 1) q (fun m => h (List.mem_cons_of_mem _ m))
theorem scanQ_is (x : S41) (i : Int) : ∀ (r : List S41) (j : Int) (q : Q), 0 ≤ j → r.Nodup → scanQ x i j r q = if idxP x j r < 0 then q else q.put (decide (idxP x j r > i))
  | [], j, q, h, hn => by simp [scanQ, idxP]
  | y :: r, j, q, h, hn => by
    simp only [scanQ, idxP]
    obtain ⟨n1, n2⟩ := List.nodup_cons.1 hn
    by_cases e : samP x y = true
    · have := samP_eq e
      have e2 : (if samP x y = true then j else idxP x (j + 1) r) = j := if_pos e
      simp only [e2]
      rw [if_pos e, if_neg (by omega), scanQ_no x i r _ _ (by rw [this]; exact n1)]
    · have e2 : (if samP x y = true then j else idxP x (j + 1) r) = idxP x (j + 1) r := if_neg e
      simp only [e2]
      rw [if_neg e, scanQ_is x i r (j + 1) q (by omega) n2]

theorem specCross_l1 (l0 l : List S41) (h0 : l0.length ≤ 1048576) (hl : l.length ≤ 1048576) (p : Nat) (hp : p < l0.length) : ∀ (rest : List S41) (j k : Nat) (q : Q), l.drop j = rest → rest.length < k →
    spec_CrossChains.l1 k l0 l q.lst (p : Int) (j : Int) = spec_CrossChains.l0 (k - rest.length - 1) l0 l (scanQ l0[p] p j rest q).lst ((p + 1 : Nat) : Int) := by
  intro rest
  induction rest with
  | nil =>
    intro j k q hd hk
    obtain ⟨k, rfl⟩ : ∃ m, k = m + 1 := ⟨k - 1, by simp at hk; omega⟩
    have := of_drop_nil hd
    simp only [spec_CrossChains.l1, scanQ]
    rw [if_neg (by omega), step64 hp (by omega)]
    rfl
  | cons y rest ih =>
    intro j k q hd hk
    simp only [List.length_cons] at hk ⊢
    obtain ⟨k, rfl⟩ : ∃ m, k = m + 1 := ⟨k - 1, by omega⟩
    obtain ⟨hj, hd', hx⟩ := of_drop hd
    have I := fun q => ih (j + 1) k q hd' (by omega)
    have r2 : rd_T41 l0 (p : Int) = l0[p] := by
      rw [rd_T41, Int.toNat_natCast, List.getD_eq_getElem?_getD, List.getElem?_eq_getElem hp]; rfl
    have r1 : rd_T41 l (j : Int) = y := hx _
    have e : k + 1 - (rest.length + 1) - 1 = k - rest.length - 1 := by omega
    simp only [spec_CrossChains.l1, r1, r2, scanQ]
    rw [if_pos (by omega), if_pos (by omega), if_pos (by omega), if_pos (by omega), step64 hj (by omega), e]
    have hs : (!(l0[p].f0 == y.f0) || !(l0[p].f1 == y.f1)) = !samP l0[p] y := by simp [samP]
    rw [hs]
    cases h : samP l0[p] y with
    | false => rw [Bool.not_false, if_pos rfl, if_neg (by simp)]; exact I q
    | true =>
      rw [Bool.not_true, if_neg (by simp), if_pos rfl]
      by_cases hg : (j : Int) > p
      · rw [if_pos hg, decide_eq_true hg]
        cases q
        · exact I .a
        · exact I .a
        · exact I .ba
        · exact I .ab
        · exact I .ba
      · rw [if_neg hg, decide_eq_false hg]
        cases q
        · exact I .b
        · exact I .ab
        · exact I .b
        · exact I .ab
        · exact I .ba

theorem specCross_l0 (l0 l : List S41) (h0 : l0.length ≤ 1048576) (hl : l.length ≤ 1048576) (hn : l.Nodup) : ∀ (rest : List S41) (p k : Nat) (q : Q), l0.drop p = rest → rest.length * (l.length + 2) < k →
    spec_CrossChains.l0 k l0 l q.lst (p : Int) = some ((crossQ l p rest q).lst, 0) := by
  intro rest
  induction rest with
  | nil =>
    intro p k q hd hk
    obtain ⟨k, rfl⟩ : ∃ m, k = m + 1 := ⟨k - 1, by omega⟩
    have := of_drop_nil hd
    simp only [spec_CrossChains.l0, crossQ]
    rw [if_neg (by omega)]
  | cons x rest ih =>
    intro p k q hd hk
    simp only [List.length_cons, Nat.succ_mul] at hk
    generalize hZ : rest.length * (l.length + 2) = Z at hk
    obtain ⟨k, rfl⟩ : ∃ m, k = m + 1 := ⟨k - 1, by omega⟩
    obtain ⟨hp, hd', hx⟩ := of_drop hd
    have hy : l0[p] = x := by
      have := hx z41
      rw [Int.toNat_natCast, List.getD_eq_getElem?_getD, List.getElem?_eq_getElem hp] at this
      exact this
    simp only [spec_CrossChains.l0, crossQ]
    rw [if_pos (by omega)]
    have e := specCross_l1 l0 l h0 hl p hp l 0 k q rfl (by omega)
    have e' : spec_CrossChains.l1 k l0 l q.lst (p : Int) 0 = _ := e
    rw [e', hy, ih (p + 1) _ _ hd' (by rw [hZ]; omega)]
    have := scanQ_is x p l 0 q (by omega) hn
    have e2 : scanQ x (p : Int) ((0 : Nat) : Int) l q = _ := this
    rw [e2]
    rfl

theorem specCross_is (l0 l : List S41) (h0 : l0.length ≤ 1048576) (hl : l.length ≤ 1048576) (k : Nat) (hk0 : l0.length * (l0.length + 2) < k) (hk1 : l.length * (l.length + 2) < k) (hk2 : l0.length * (l.length + 2) + 1 < k) : spec_CrossChains.f k l0 l = some (crossR l0 l) := by
  obtain ⟨m, hm⟩ : ∃ m, k = m + 1 := ⟨k - 1, by omega⟩
  unfold spec_CrossChains.f crossR
  rw [line_is l0 (by omega) _ hk0, line_is l (by omega) _ hk1]
  subst hm
  simp only [Option.bind_some, spec_CrossChains.j0]
  cases g0 : okP l0
  · simp
  · cases g1 : okP l
    · simp
    · have hn : l.Nodup := by
        unfold okP at g1
        rw [Bool.and_eq_true] at g1
        exact (laidP_nodup l [] g1.2).1
      have e := specCross_l0 l0 l h0 hl hn l0 0 m .n rfl (by omega)
      have e' : spec_CrossChains.l0 m l0 l [] 0 = _ := e
      simp only [if_true, Bool.not_true, Bool.false_eq_true, if_false, Bool.and_self]
      exact e'

theorem eqCover_q (q : Q) (k : Nat) (hk : 4 ≤ k) : laws_eqCoverS.f k q.lst q.lst = some true := by
  obtain ⟨k, rfl⟩ : ∃ m, k = m + 4 := ⟨k - 4, by omega⟩
  cases q <;> simp [laws_eqCoverS.f, laws_eqCoverS.l0, laws_eqCover.f, Q.lst, rd_T73, w01, w11, w1', w2']
theorem markHeld (q : Q) (k : Nat) : ∃ n ys, laws_markCoverS.f (k + 4) q.lst 1 = some (n, ys) ∧ laws_heldCoverS.f (k + 4) ys 1 = some n ∧ laws_heldCoverS.f (k + 3) ys 1 = some n ∧ 0 ≤ n := by
  cases q
  · exact ⟨1, [], by simp [laws_markCoverS.f, laws_markCoverS.l0, laws_heldCoverS.f, laws_heldCoverS.l0, Q.lst, rd_T73, w1', w2', w3', w4', w5'], by simp [laws_markCoverS.f, laws_markCoverS.l0, laws_heldCoverS.f, laws_heldCoverS.l0, Q.lst, rd_T73, w1', w2', w3', w4', w5'], by simp [laws_markCoverS.f, laws_markCoverS.l0, laws_heldCoverS.f, laws_heldCoverS.l0, Q.lst, rd_T73, w1', w2', w3', w4', w5'], by decide⟩
  · exact ⟨3, [⟨IntKind.i8.wrap 1, IntKind.i8.wrap 2⟩], by simp [laws_markCoverS.f, laws_markCoverS.l0, laws_heldCoverS.f, laws_heldCoverS.l0, Q.lst, rd_T73, w1', w2', w3', w4', w5'], by simp [laws_markCoverS.f, laws_markCoverS.l0, laws_heldCoverS.f, laws_heldCoverS.l0, Q.lst, rd_T73, w1', w2', w3', w4', w5'], by simp [laws_markCoverS.f, laws_markCoverS.l0, laws_heldCoverS.f, laws_heldCoverS.l0, Q.lst, rd_T73, w1', w2', w3', w4', w5'], by decide⟩
  · exact ⟨3, [⟨IntKind.i8.wrap 1, IntKind.i8.wrap 2⟩], by simp [laws_markCoverS.f, laws_markCoverS.l0, laws_heldCoverS.f, laws_heldCoverS.l0, Q.lst, rd_T73, w1', w2', w3', w4', w5'], by simp [laws_markCoverS.f, laws_markCoverS.l0, laws_heldCoverS.f, laws_heldCoverS.l0, Q.lst, rd_T73, w1', w2', w3', w4', w5'], by simp [laws_markCoverS.f, laws_markCoverS.l0, laws_heldCoverS.f, laws_heldCoverS.l0, Q.lst, rd_T73, w1', w2', w3', w4', w5'], by decide⟩
  · exact ⟨5, [⟨IntKind.i8.wrap 1, IntKind.i8.wrap 2⟩, ⟨IntKind.i8.wrap 3, IntKind.i8.wrap 4⟩], by simp [laws_markCoverS.f, laws_markCoverS.l0, laws_heldCoverS.f, laws_heldCoverS.l0, Q.lst, rd_T73, w1', w2', w3', w4', w5'], by simp [laws_markCoverS.f, laws_markCoverS.l0, laws_heldCoverS.f, laws_heldCoverS.l0, Q.lst, rd_T73, w1', w2', w3', w4', w5'], by simp [laws_markCoverS.f, laws_markCoverS.l0, laws_heldCoverS.f, laws_heldCoverS.l0, Q.lst, rd_T73, w1', w2', w3', w4', w5'], by decide⟩
  · exact ⟨5, [⟨IntKind.i8.wrap 1, IntKind.i8.wrap 2⟩, ⟨IntKind.i8.wrap 3, IntKind.i8.wrap 4⟩], by simp [laws_markCoverS.f, laws_markCoverS.l0, laws_heldCoverS.f, laws_heldCoverS.l0, Q.lst, rd_T73, w1', w2', w3', w4', w5'], by simp [laws_markCoverS.f, laws_markCoverS.l0, laws_heldCoverS.f, laws_heldCoverS.l0, Q.lst, rd_T73, w1', w2', w3', w4', w5'], by simp [laws_markCoverS.f, laws_markCoverS.l0, laws_heldCoverS.f, laws_heldCoverS.l0, Q.lst, rd_T73, w1', w2', w3', w4', w5'], by decide⟩
theorem crossR_q (l0 l : List S41) : ∃ q : Q, (crossR l0 l).1 = q.lst := by
  unfold crossR
  split
  · exact ⟨_, rfl⟩
  · exact ⟨.n, rfl⟩

theorem FnExactCrossChains : FnExactCrossChains.Said := by
  intro l l' hm hy hok hm' hy' hok'
  have hl : l.length ≤ 93824992236885 := by omega
  have hl' : l'.length ≤ 93824992236885 := by omega
  have hlm : (l.map cvP).length = l.length := List.length_map ..
  have hlm' : (l'.map cvP).length = l'.length := List.length_map ..
  obtain ⟨A, hA⟩ : ∃ A, A = l.length * (l.length + 2) := ⟨_, rfl⟩
  obtain ⟨B, hB⟩ : ∃ B, B = l'.length * (l'.length + 2) := ⟨_, rfl⟩
  obtain ⟨C, hC⟩ : ∃ C, C = l.length * (l'.length + 2) := ⟨_, rfl⟩
  obtain ⟨K, hK⟩ : ∃ K, K = A + B + C + 2 * l.length + 2 * l'.length + 20 := ⟨_, rfl⟩
  refine ⟨K + 4, ?_⟩
  unfold laws_FnExactCrossChains.f
  rw [szPlaceS_is l _ hl (by omega) (by omega)]
  simp only [Option.bind_some]
  by_cases big : (1048576 : Int) < l.length
  · rw [if_pos big]; rfl
  · rw [if_neg big, if_neg (by omega), szPlaceS_is l' _ hl' (by omega) (by omega)]
    simp only [Option.bind_some]
    by_cases big' : (1048576 : Int) - l.length < l'.length
    · rw [if_pos big']; rfl
    · rw [if_neg big', if_neg (by omega), toPlaceS_is l hl _ (by omega), toPlaceS_is l' hl' _ (by omega)]
      simp only [Option.bind_some]
      have eI := fun k (hk : K ≤ k) => implCross_is (l.map cvP) (l'.map cvP) (by omega) (by omega) k (by omega)
      rw [specCross_is (l.map cvP) (l'.map cvP) (by omega) (by omega) (K + 4) (by rw [hlm, ← hA]; omega) (by rw [hlm', ← hB]; omega) (by rw [hlm, hlm', ← hC]; omega), eI _ (by omega)]
      obtain ⟨q, hq⟩ := crossR_q (l.map cvP) (l'.map cvP)
      obtain ⟨J, hJ⟩ : ∃ J, K = J + 3 := ⟨K - 3, by omega⟩
      obtain ⟨n, ys, e1, e2, e3, e4⟩ := markHeld q (J + 1)
      obtain ⟨y1, m1⟩ := markPlaceS_is (l.map cvP) 1 (by omega) (by omega) (by omega) (K + 3) (by omega)
      obtain ⟨y2, m2⟩ := markPlaceS_is (l'.map cvP) (1 + 2 * ((l.map cvP).length : Int)) (by omega) (by omega) (by omega) (K + 3) (by omega)
      simp only [Option.bind_some, hq, eqCover_q q (K + 4) (by omega), if_true, bne_self_eq_false]
      simp only [laws_FnExactCrossChains.j0, Bool.false_eq_true, if_false]
      rw [toPlaceS_is l hl _ (by omega), toPlaceS_is l' hl' _ (by omega)]
      simp only [Option.bind_some]
      rw [eqPlaceS_is _ (by omega) _ (by omega)]
      simp only [Option.bind_some, if_true]
      rw [eqPlaceS_is _ (by omega) _ (by omega)]
      simp only [Option.bind_some, if_true, m1, m2]
      rw [if_neg (by omega), eqCover_q q (K + 3) (by omega)]
      simp only [Option.bind_some, if_true, bne_self_eq_false]
      simp only [laws_FnExactCrossChains.j1, Bool.false_eq_true, if_false]
      have e1' : laws_markCoverS.f (K + 2) q.lst 1 = some (n, ys) := by rw [hJ]; exact e1
      have e2' : laws_heldCoverS.f (K + 2) ys 1 = some n := by rw [hJ]; exact e2
      have e3' : laws_heldCoverS.f (K + 1) ys 1 = some n := by rw [hJ]; exact e3
      rw [e1']
      simp only [Option.bind_some]
      rw [e2']
      simp only [Option.bind_some]
      rw [if_neg (by omega), if_pos trivial, toPlaceS_is l hl _ (by omega), toPlaceS_is l' hl' _ (by omega)]
      simp only [Option.bind_some]
      rw [eI _ (by omega)]
      simp only [Option.bind_some, hq, eqCover_q q (K + 2) (by omega), if_true, bne_self_eq_false]
      simp only [laws_FnExactCrossChains.j2, Bool.false_eq_true, if_false]
      rw [e3']
      simp only [Option.bind_some]
      rw [if_neg (by omega)]
      simp

end Go.Proofs.Ytldalpnccmchpaa.Pure
