/- The program's MovesFor returns what the reference's MovesFor returns, for all hulls and all lists of numbers (of at most 2^20; longer ones the law lets by). -/
import Derived.Test.YtjcdgimldhodiaaPFnExactMovesForx5
namespace Go.Proofs.Ytjcdgimldhodiaa.Pure
open Go.RowKit Go.Proofs.Ytjcdgimldhodiaa.PFnExactMovesFor Go.Proofs.YtjcdgimldhodiaaW.PrintWords Go.Proofs.YtjcdgimldhodiaaW.PrintLast Go.Proofs.YtjcdgimldhodiaaW.PrintMore
set_option linter.unusedVariables false
set_option linter.unusedSimpArgs false

/-- A hull that is valid. -/
def vh (x : S73) : Bool := decide (1 ≤ x.f0 ∧ x.f0 ≤ 40 ∧ 1 ≤ x.f1 ∧ x.f1 ≤ 100 ∧ 1 ≤ x.f2 ∧ x.f2 ≤ 20)
def In8 (x : S73) : Prop := (-128 ≤ x.f0 ∧ x.f0 ≤ 127) ∧ (-128 ≤ x.f1 ∧ x.f1 ≤ 127) ∧ (-128 ≤ x.f2 ∧ x.f2 ≤ 127)

def cvH (x : S75) : S73 := ⟨x.f0, x.f1, x.f2⟩

theorem toHullS_l0 (l : List S75) (hl : l.length ≤ 1152921504606846976) : ∀ (rest : List S75) (p k : Nat) (ys : List S73), l.drop p = rest → ys.length = l.length → rest.length < k →
    laws_toHullS.l0 k l ys (p : Int) = some (ys.take p ++ rest.map cvH) := by
  intro rest
  induction rest with
  | nil =>
    intro p k ys hd hy hk
    obtain ⟨k, rfl⟩ : ∃ m, k = m + 1 := ⟨k - 1, by simp at hk; omega⟩
    have := of_drop_nil hd
    simp only [laws_toHullS.l0]
    rw [if_neg (by omega), List.take_of_length_le (by omega)]
    simp
  | cons x rest ih =>
    intro p k ys hd hy hk
    simp only [List.length_cons] at hk
    obtain ⟨k, rfl⟩ : ∃ m, k = m + 1 := ⟨k - 1, by omega⟩
    obtain ⟨hp, hd', hx⟩ := of_drop hd
    simp only [laws_toHullS.l0, laws_toHull.f, rd_T75, hx, Option.bind_some]
    rw [if_pos (by omega), if_pos (by omega), if_pos (by omega), step64 hp hl, ih (p + 1) k _ hd' (by simpa using hy) (by omega), Int.toNat_natCast, take_set_at _ _ _ (by omega)]
    simp [cvH]

theorem toHullS_is (l : List S75) (hl : l.length ≤ 93824992236885) (k : Nat) (hk : l.length < k) : laws_toHullS.f k l = some (l.map cvH) := by
  unfold laws_toHullS.f
  rw [if_pos (by omega), if_pos (by omega)]
  have := toHullS_l0 l (by omega) l 0 k (List.replicate (l.length : Int).toNat z73) rfl (by simp) hk
  simpa using this

theorem cvH_in {l : List S75} (h : ∀ x ∈ l, (Lit.int .i8 x.f0).wf = true ∧ (Lit.int .i8 x.f1).wf = true ∧ (Lit.int .i8 x.f2).wf = true) : ∀ x ∈ l.map cvH, In8 x := by
  intro x hx
  obtain ⟨y, hy, rfl⟩ := List.mem_map.1 hx
  exact ⟨i8_in (h y hy).1, i8_in (h y hy).2.1, i8_in (h y hy).2.2⟩

theorem eqHullS_l0 (l : List S73) (hl : l.length ≤ 1152921504606846976) : ∀ (rest : List S73) (p k : Nat), l.drop p = rest → rest.length < k → laws_eqHullS.l0 k l l (p : Int) = some true := by
  intro rest
  induction rest with
  | nil =>
    intro p k hd hk
    obtain ⟨k, rfl⟩ : ∃ m, k = m + 1 := ⟨k - 1, by simp at hk; omega⟩
    have := of_drop_nil hd
    simp only [laws_eqHullS.l0]
    rw [if_neg (by omega)]
  | cons x rest ih =>
    intro p k hd hk
    simp only [List.length_cons] at hk
    obtain ⟨k, rfl⟩ : ∃ m, k = m + 1 := ⟨k - 1, by omega⟩
    obtain ⟨hp, hd', hx⟩ := of_drop hd
    simp only [laws_eqHullS.l0, laws_eqHull.f, if_true, Option.bind_some]
    rw [if_pos (by omega), if_pos (by omega), if_pos (by omega), step64 hp hl]
    exact ih (p + 1) k hd' (by omega)

theorem eqHullS_is (l : List S73) (hl : l.length ≤ 1152921504606846976) (k : Nat) (hk : l.length < k) : laws_eqHullS.f k l l = some true := by
  unfold laws_eqHullS.f
  rw [if_pos rfl]
  exact eqHullS_l0 l hl l 0 k rfl hk

theorem szHullS_is (l : List S75) (a : Int) (hl : l.length ≤ 93824992236885) (h0 : 0 ≤ a) (h1 : a ≤ 1048576) : laws_szHullS.f l a = some (if a < l.length then -1 else a - l.length) := by
  unfold laws_szHullS.f
  rw [w64_id (by omega)]
  by_cases h : a < l.length
  · rw [if_pos (by omega), if_pos h]
  · rw [if_neg (by omega), if_neg h]

theorem implValid_is (a b c : Int) : impl_ValidHull.f a b c = some (vh ⟨a, b, c⟩) := by
  unfold impl_ValidHull.f
  show _ = some (decide (1 ≤ a ∧ a ≤ 40 ∧ 1 ≤ b ∧ b ≤ 100 ∧ 1 ≤ c ∧ c ≤ 20))
  repeat' split
  all_goals first | exact some_dec (by omega) | exact some_decF (by omega)

def codeH (l : List S73) : Int := if l.all vh then (if l.length > 7 then 3 else 0) else 1

theorem hullsCode_l0 (l : List S73) (hl : l.length ≤ 1152921504606846976) : ∀ (rest : List S73) (p k : Nat), l.drop p = rest → rest.length < k →
    impl_hullsCode.l0 k l l (l.length : Int) (p : Int) = some (if rest.all vh then (if l.length > 7 then 3 else 0) else 1) := by
  intro rest
  induction rest with
  | nil =>
    intro p k hd hk
    obtain ⟨k, rfl⟩ : ∃ m, k = m + 1 := ⟨k - 1, by simp at hk; omega⟩
    have := of_drop_nil hd
    simp only [impl_hullsCode.l0]
    rw [if_neg (by omega)]
    by_cases h : l.length > 7
    · rw [if_pos (by omega)]; simp [h]
    · rw [if_neg (by omega)]; simp [h]
  | cons x rest ih =>
    intro p k hd hk
    simp only [List.length_cons] at hk
    obtain ⟨k, rfl⟩ : ∃ m, k = m + 1 := ⟨k - 1, by omega⟩
    obtain ⟨hp, hd', hx⟩ := of_drop hd
    simp only [impl_hullsCode.l0, rd_T73, hx, implValid_is, Option.bind_some]
    rw [if_pos (by omega), if_pos (by omega), if_pos (by omega), step64 hp hl, ih (p + 1) k hd' (by omega)]
    cases hv : vh x <;> simp [hv]

theorem hullsCode_is (l : List S73) (hl : l.length ≤ 1152921504606846976) (k : Nat) (hk : l.length < k) : impl_hullsCode.f k l = some (codeH l) := by
  unfold impl_hullsCode.f codeH
  exact hullsCode_l0 l hl l 0 k rfl hk

theorem codeH_ok {l : List S73} (h : codeH l = 0) : l.length ≤ 7 ∧ ∀ x ∈ l, vh x = true := by
  unfold codeH at h
  split at h
  · rename_i ha
    split at h
    · cases h
    · exact ⟨by omega, by simpa using ha⟩
  · cases h

theorem l00In_is (a lo hi : Int) : spec_l00In.f a lo hi = some (decide (lo ≤ a ∧ a ≤ hi)) := by
  unfold spec_l00In.f
  repeat' split
  all_goals first | exact some_dec (by omega) | exact some_decF (by omega)

theorem vh_and (x : S73) : vh x = (decide (1 ≤ x.f0 ∧ x.f0 ≤ 40) && (decide (1 ≤ x.f1 ∧ x.f1 ≤ 100) && decide (1 ≤ x.f2 ∧ x.f2 ≤ 20))) := by
  unfold vh
  rw [← Bool.decide_and, ← Bool.decide_and]
  exact decide_eq_decide.2 (by omega)

theorem specValid_is (a b c : Int) (h : In8 ⟨a, b, c⟩) : spec_l04Hull.f a b c = some (vh ⟨a, b, c⟩) := by
  obtain ⟨h0, h1, h2⟩ := h
  simp only at h0 h1 h2
  unfold spec_l04Hull.f
  rw [w64_id (by omega), w64_id (by omega), w64_id (by omega), l00In_is, l00In_is, l00In_is, vh_and]
  simp only [Option.bind_some]
  cases decide (1 ≤ a ∧ a ≤ 40) <;> cases decide (1 ≤ b ∧ b ≤ 100) <;> rfl

theorem l04Asked_l0 (l : List S73) (hl : l.length ≤ 1152921504606846976) (h8 : ∀ x ∈ l, In8 x) : ∀ (rest : List S73) (p k : Nat), l.drop p = rest → rest.length < k →
    spec_l04Asked.l0 k l (p : Int) = some (if rest.all vh then (if l.length > 7 then 3 else 0) else 1) := by
  intro rest
  induction rest with
  | nil =>
    intro p k hd hk
    obtain ⟨k, rfl⟩ : ∃ m, k = m + 1 := ⟨k - 1, by simp at hk; omega⟩
    have := of_drop_nil hd
    simp only [spec_l04Asked.l0]
    rw [if_neg (by omega)]
    by_cases h : l.length > 7
    · rw [if_pos (by omega)]; simp [h]
    · rw [if_neg (by omega)]; simp [h]
  | cons x rest ih =>
    intro p k hd hk
    simp only [List.length_cons] at hk
    obtain ⟨k, rfl⟩ : ∃ m, k = m + 1 := ⟨k - 1, by omega⟩
    obtain ⟨hp, hd', hx⟩ := of_drop hd
    have hx8 : In8 x := h8 x (List.mem_of_mem_drop (by rw [hd]; exact List.mem_cons_self))
    simp only [spec_l04Asked.l0, rd_T73, hx, specValid_is _ _ _ hx8, Option.bind_some]
    rw [if_pos (by omega), if_pos (by omega), step64 hp hl, ih (p + 1) k hd' (by omega)]
    cases hv : vh x <;> simp [hv]

theorem l04Asked_is (l : List S73) (hl : l.length ≤ 1152921504606846976) (h8 : ∀ x ∈ l, In8 x) (k : Nat) (hk : l.length < k) : spec_l04Asked.f k l = some (codeH l) := by
  unfold spec_l04Asked.f codeH
  exact l04Asked_l0 l hl h8 l 0 k rfl hk

theorem l00Has_l0 (l : List Int) (a : Int) (hl : l.length ≤ 1152921504606846976) : ∀ (rest : List Int) (p k : Nat), l.drop p = rest → rest.length < k → spec_l00Has.l0 k l a (p : Int) = some (rest.contains a) := by
  intro rest
  induction rest with
  | nil =>
    intro p k hd hk
    obtain ⟨k, rfl⟩ : ∃ m, k = m + 1 := ⟨k - 1, by simp at hk; omega⟩
    have := of_drop_nil hd
    simp only [spec_l00Has.l0]
    rw [if_neg (by omega)]
    rfl
  | cons x rest ih =>
    intro p k hd hk
    simp only [List.length_cons] at hk
    obtain ⟨k, rfl⟩ : ∃ m, k = m + 1 := ⟨k - 1, by omega⟩
    obtain ⟨hp, hd', hx⟩ := of_drop hd
    simp only [spec_l00Has.l0, rd, hx]
    rw [if_pos (by omega), if_pos (by omega), step64 hp hl, ih (p + 1) k hd' (by omega)]
    by_cases e : x = a
    · rw [if_pos e, e]; simp
    · rw [if_neg e, List.contains_cons]
      have : (a == x) = false := by simpa using fun h => e h.symm
      rw [this, Bool.false_or]
theorem l00Has_is (l : List Int) (a : Int) (hl : l.length ≤ 1152921504606846976) (k : Nat) (hk : l.length < k) : spec_l00Has.f k l a = some (l.contains a) := by
  unfold spec_l00Has.f
  exact l00Has_l0 l a hl l 0 k rfl hk

/-- Each number below n at most once, none of s. -/
def eachB (n : Int) : List Int → List Int → Bool
  | _, [] => true
  | s, x :: r => if 0 ≤ x ∧ x < n then (if s.contains x = true then false else eachB n (s ++ [x]) r) else false
theorem each_l0 (n : Nat) (hn : n ≤ 1048576) (r : List Int) (hr : r.length ≤ 1048576) : ∀ (rest : List Int) (p k : Nat), r.drop p = rest → rest.length + r.length + 1 < k → spec_l04Each.l0 k (n : Int) r (p : Int) = some (eachB n (r.take p) rest && decide (r.length = n)) := by
  intro rest
  induction rest with
  | nil =>
    intro p k hd hk
    obtain ⟨k, rfl⟩ : ∃ m, k = m + 1 := ⟨k - 1, by omega⟩
    have := of_drop_nil hd
    simp only [spec_l04Each.l0]
    rw [if_neg (by omega)]
    simp only [eachB, Bool.true_and, Option.some.injEq]
    by_cases h : r.length = n
    · rw [decide_eq_true h]; exact beq_iff_eq.2 (by omega)
    · rw [decide_eq_false h]; exact beq_eq_false_iff_ne.2 (by omega)
  | cons x rest ih =>
    intro p k hd hk
    simp only [List.length_cons] at hk
    obtain ⟨k, rfl⟩ : ∃ m, k = m + 1 := ⟨k - 1, by omega⟩
    obtain ⟨hp, hd', hx⟩ := of_drop hd
    have hy : r[p] = x := by
      have := hx 0
      rw [Int.toNat_natCast, List.getD_eq_getElem?_getD, List.getElem?_eq_getElem hp] at this
      exact this
    have e : spec_l00In.f x 0 (wrap64 ((n : Int) - 1)) = some (decide (0 ≤ x ∧ x < (n : Int))) := by
      rw [w64_id (by omega)]
      unfold spec_l00In.f
      split
      · exact some_dec (by omega)
      · exact some_decF (by omega)
    have I := ih (p + 1) k hd' (by omega)
    rw [List.take_succ_eq_append_getElem hp, hy] at I
    simp only [spec_l04Each.l0, rd, hx, eachB]
    rw [if_pos (by omega), if_pos (by omega), e]
    simp only [Option.bind_some]
    by_cases hin : 0 ≤ x ∧ x < (n : Int)
    · rw [decide_eq_true hin, if_pos rfl, if_pos hin, if_pos (by omega), Int.toNat_natCast, l00Has_is (r.take p) x (by simp; omega) k (by simp; omega)]
      simp only [Option.bind_some]
      by_cases hc : (r.take p).contains x = true
      · rw [if_pos hc, if_pos hc]; rfl
      · rw [if_neg hc, if_neg hc, step64 hp (by omega), I]
    · rw [decide_eq_false hin, if_neg (by simp), if_neg hin]; rfl
def okE (n : Nat) (r : List Int) : Bool := eachB n [] r && decide (r.length = n)
theorem each_is (n : Nat) (hn : n ≤ 1048576) (r : List Int) (hr : r.length ≤ 1048576) (k : Nat) (hk : 2 * r.length + 1 < k) : spec_l04Each.f k (n : Int) r = some (okE n r) := by
  unfold spec_l04Each.f
  exact each_l0 n hn r hr r 0 k rfl (by omega)
theorem eachB_iff (n : Int) : ∀ (r s : List Int), eachB n s r = true ↔ (∀ x ∈ r, 0 ≤ x ∧ x < n) ∧ r.Nodup ∧ ∀ x ∈ r, x ∉ s
  | [], s => by simp [eachB]
  | x :: r, s => by
    have ih := eachB_iff n r (s ++ [x])
    simp only [eachB]
    by_cases h1 : 0 ≤ x ∧ x < n
    · rw [if_pos h1]
      by_cases h2 : s.contains x = true
      · rw [if_pos h2]
        have : x ∈ s := by simpa using h2
        constructor
        · intro h; cases h
        · intro h; exact absurd this (h.2.2 x List.mem_cons_self)
      · rw [if_neg h2, ih]
        have hx : x ∉ s := by simpa using h2
        constructor
        · intro ⟨a, b, c⟩
          refine ⟨fun y hy => ?_, List.nodup_cons.2 ⟨fun hm => c x hm (by simp), b⟩, fun y hy => ?_⟩
          · rcases List.mem_cons.1 hy with rfl | hy
            · exact h1
            · exact a y hy
          · rcases List.mem_cons.1 hy with rfl | hy
            · exact hx
            · exact fun hm => c y hy (List.mem_append_left _ hm)
        · intro ⟨a, b, c⟩
          obtain ⟨b1, b2⟩ := List.nodup_cons.1 b
          refine ⟨fun y hy => a y (List.mem_cons_of_mem _ hy), b2, fun y hy hm => ?_⟩
          rcases List.mem_append.1 hm with hm | hm
          · exact c y (List.mem_cons_of_mem _ hy) hm
          · rw [List.mem_singleton.1 hm] at hy; exact b1 hy
    · rw [if_neg h1]
      constructor
      · intro h; cases h
      · intro h; exact absurd (h.1 x List.mem_cons_self) h1
theorem perm_of_sub : ∀ (r s : List Int), r.Nodup → (∀ x ∈ r, x ∈ s) → s.length ≤ r.length → r.Perm s
  | [], s, _, _, hl => by
    have : s = [] := List.length_eq_zero_iff.1 (by simpa using hl)
    rw [this]
  | x :: r, s, hn, hs, hl => by
    obtain ⟨h1, h2⟩ := List.nodup_cons.1 hn
    have hx := hs x List.mem_cons_self
    have hle := List.length_erase_of_mem hx
    have ih := perm_of_sub r (s.erase x) h2 (fun y hy => (List.mem_erase_of_ne (fun e => by rw [e] at hy; exact h1 hy)).2 (hs y (List.mem_cons_of_mem _ hy))) (by rw [hle]; simp at hl; omega)
    exact (List.Perm.cons x ih).trans (List.perm_cons_erase hx).symm
theorem cntI_mem {n : Nat} {x : Int} : x ∈ cntI n ↔ 0 ≤ x ∧ x < n := by
  unfold cntI
  rw [List.mem_map]
  constructor
  · intro ⟨i, hi, e⟩
    have := List.mem_range.1 hi
    omega
  · intro h
    exact ⟨x.toNat, List.mem_range.2 (by omega), by omega⟩
theorem cntI_lt (n : Nat) : (cntI n).Pairwise (fun a b => a < b) := by
  unfold cntI
  rw [List.pairwise_map]
  exact List.pairwise_lt_range.imp (fun h => by omega)
theorem cntI_nodup (n : Nat) : (cntI n).Nodup := (cntI_lt n).imp (fun h => by omega)
theorem sort_each (n : Nat) (r : List Int) : decide (sort64 r = cntI n) = okE n r := by
  have hp : (sort64 r).Perm r := List.mergeSort_perm ..
  rw [Bool.eq_iff_iff]
  unfold okE
  rw [Bool.and_eq_true, decide_eq_true_iff, decide_eq_true_iff, eachB_iff]
  constructor
  · intro h
    rw [h] at hp
    refine ⟨⟨fun x hx => cntI_mem.1 (hp.mem_iff.2 hx), hp.nodup_iff.1 (cntI_nodup n), fun x _ => by simp⟩, ?_⟩
    rw [← hp.length_eq, cntI_length]
  · intro ⟨⟨h1, h2, _⟩, h3⟩
    have hq := perm_of_sub r (cntI n) h2 (fun x hx => cntI_mem.2 (h1 x hx)) (by rw [cntI_length]; omega)
    refine List.Perm.eq_of_pairwise (le := fun a b => decide (a ≤ b) = true) (fun a b _ _ hab hba => ?_) ?_ ?_ (hp.trans hq)
    · have := of_decide_eq_true hab
      have := of_decide_eq_true hba
      omega
    · exact List.pairwise_mergeSort (fun a b c h1 h2 => decide_eq_true (by have := of_decide_eq_true h1; have := of_decide_eq_true h2; omega)) (fun a b => by
        rcases Int.le_total a b with h | h
        · rw [decide_eq_true h]; rfl
        · rw [decide_eq_true (p := b ≤ a) h, Bool.or_true]) r
    · exact (cntI_lt n).imp (fun h => decide_eq_true (by omega))

/-! The law's harness over a result that is a list of whole numbers. -/
theorem eqInt64S_l0 (l : List Int) (hl : l.length ≤ 1152921504606846976) : ∀ (rest : List Int) (p k : Nat), l.drop p = rest → rest.length < k → laws_eqInt64S.l0 k l l (p : Int) = some true := by
  intro rest
  induction rest with
  | nil =>
    intro p k hd hk
    obtain ⟨k, rfl⟩ : ∃ m, k = m + 1 := ⟨k - 1, by simp at hk; omega⟩
    have := of_drop_nil hd
    simp only [laws_eqInt64S.l0]
    rw [if_neg (by omega)]
  | cons x rest ih =>
    intro p k hd hk
    simp only [List.length_cons] at hk
    obtain ⟨k, rfl⟩ : ∃ m, k = m + 1 := ⟨k - 1, by omega⟩
    obtain ⟨hp, hd', hx⟩ := of_drop hd
    simp only [laws_eqInt64S.l0, if_true]
    rw [if_pos (by omega), if_pos (by omega), if_pos (by omega), step64 hp hl]
    exact ih (p + 1) k hd' (by omega)

theorem eqInt64S_is (l : List Int) (hl : l.length ≤ 1152921504606846976) (k : Nat) (hk : l.length < k) : laws_eqInt64S.f k l l = some true := by
  unfold laws_eqInt64S.f
  rw [if_pos rfl]
  exact eqInt64S_l0 l hl l 0 k rfl hk

theorem toInt64S_l0 (l : List Int) (hl : l.length ≤ 1152921504606846976) : ∀ (rest : List Int) (p k : Nat) (ys : List Int), l.drop p = rest → ys.length = l.length → rest.length < k →
    laws_toInt64S.l0 k l ys (p : Int) = some (ys.take p ++ rest) := by
  intro rest
  induction rest with
  | nil =>
    intro p k ys hd hy hk
    obtain ⟨k, rfl⟩ : ∃ m, k = m + 1 := ⟨k - 1, by simp at hk; omega⟩
    have := of_drop_nil hd
    simp only [laws_toInt64S.l0]
    rw [if_neg (by omega), List.take_of_length_le (by omega)]
    simp
  | cons x rest ih =>
    intro p k ys hd hy hk
    simp only [List.length_cons] at hk
    obtain ⟨k, rfl⟩ : ∃ m, k = m + 1 := ⟨k - 1, by omega⟩
    obtain ⟨hp, hd', hx⟩ := of_drop hd
    simp only [laws_toInt64S.l0, rd, hx, Option.bind_some]
    rw [if_pos (by omega), if_pos (by omega), if_pos (by omega), step64 hp hl, ih (p + 1) k _ hd' (by simpa using hy) (by omega), Int.toNat_natCast, take_set_at _ _ _ (by omega)]
    simp
theorem toInt64S_is (l : List Int) (hl : l.length * 8 ≤ 140737488351232) (k : Nat) (hk : l.length < k) : laws_toInt64S.f k l = some l := by
  unfold laws_toInt64S.f
  rw [if_pos (by omega), if_pos (by omega)]
  have := toInt64S_l0 l (by omega) l 0 k (List.replicate (l.length : Int).toNat 0) rfl (by simp) hk
  simpa using this

/-- The law, in plain Lean. -/
def FnExactMovesFor.Said : Prop := ∀ (l0 : List S75) (l1 : List Int), l0.length ≤ maxLen → l0.length * 3 ≤ 140737488351232 → (∀ x ∈ l0, (Lit.int .i8 x.f0).wf = true ∧ (Lit.int .i8 x.f1).wf = true ∧ (Lit.int .i8 x.f2).wf = true) → l1.length ≤ maxLen → l1.length * 8 ≤ 140737488351232 → (∀ x ∈ l1, (Lit.int .i64 x).wf = true) → ∃ k, laws_FnExactMovesFor.f k l0 l1 = some true

/-- The place of x in a list. -/
def idxI (x : Int) : List Int → Nat
  | [] => 0
  | y :: r => if x = y then 0 else idxI x r + 1
theorem idxI_lt {x : Int} : ∀ {t : List Int}, x ∈ t → idxI x t < t.length
  | y :: r, h => by
    simp only [idxI, List.length_cons]
    by_cases e : x = y
    · rw [if_pos e]; omega
    · rw [if_neg e]
      have := idxI_lt (t := r) (by rcases List.mem_cons.1 h with h | h; exact absurd h e; exact h)
      omega
theorem idxI_erase {x : Int} : ∀ {t : List Int}, x ∈ t → t.take (idxI x t) ++ t.drop (idxI x t + 1) = t.erase x
  | y :: r, h => by
    simp only [idxI]
    rw [List.erase_cons]
    by_cases e : x = y
    · rw [if_pos e, if_pos (beq_iff_eq.2 e.symm)]; simp
    · rw [if_neg e, if_neg (fun g => e (beq_iff_eq.1 g).symm)]
      have := idxI_erase (t := r) (by rcases List.mem_cons.1 h with h | h; exact absurd h e; exact h)
      simp [this]
theorem index_l0 (t : List Int) (x : Int) (ht : t.length ≤ 1048576) : ∀ (rest : List Int) (p k : Nat), t.drop p = rest → rest.length < k → x ∈ rest → slices_Index_int64_int64.l0 k t x (t.length : Int) (p : Int) = some (((p + idxI x rest : Nat)) : Int) := by
  intro rest
  induction rest with
  | nil => intro p k hd hk hx; cases hx
  | cons y rest ih =>
    intro p k hd hk hx
    simp only [List.length_cons] at hk
    obtain ⟨k, rfl⟩ : ∃ m, k = m + 1 := ⟨k - 1, by omega⟩
    obtain ⟨hp, hd', hy⟩ := of_drop hd
    simp only [slices_Index_int64_int64.l0, rd, hy, idxI]
    rw [if_pos (by omega), if_pos (by omega), if_pos (by omega)]
    by_cases e : x = y
    · rw [if_pos e, if_pos e]; rfl
    · rw [if_neg e, if_neg e, step64 hp (by omega), ih (p + 1) k hd' (by omega) (by rcases List.mem_cons.1 hx with h | h; exact absurd h e; exact h)]
      congr 2
      omega
/-- The moves if those that lie in t leave. -/
def moveP : List Int → List Int → Int
  | _, [] => 0
  | t, x :: xs => ((t.length : Int) - 1 - idxI x t) + moveP (t.erase x) xs
theorem moves_l0 (r : List Int) (hr : r.length ≤ 1048576) : ∀ (rest : List Int) (p k : Nat) (all : Int) (t : List Int), r.drop p = rest → (∀ y ∈ rest, y ∈ t) → rest.Nodup → t.length ≤ 1048576 → rest.length + t.length + 1 < k → 0 ≤ all → all + (rest.length : Int) * 1048576 ≤ 4611686018427387904 →
    impl_moves.l0 k all t r (r.length : Int) (p : Int) = some (all + moveP t rest) := by
  intro rest
  induction rest with
  | nil =>
    intro p k all t hd _ _ _ hk _ _
    obtain ⟨k, rfl⟩ : ∃ m, k = m + 1 := ⟨k - 1, by omega⟩
    have := of_drop_nil hd
    simp only [impl_moves.l0, moveP]
    rw [if_neg (by omega), Int.add_zero]
  | cons x rest ih =>
    intro p k all t hd hin hn ht hk h0 h1
    simp only [List.length_cons] at hk h1
    obtain ⟨k, rfl⟩ : ∃ m, k = m + 1 := ⟨k - 1, by omega⟩
    obtain ⟨hp, hd', hx⟩ := of_drop hd
    obtain ⟨n1, n2⟩ := List.nodup_cons.1 hn
    have hxt := hin x List.mem_cons_self
    have hlt := idxI_lt hxt
    have hle := List.length_erase_of_mem hxt
    have hI : slices_Index_int64_int64.f k t x = some ((idxI x t : Nat) : Int) := by
      unfold slices_Index_int64_int64.f
      have := index_l0 t x ht t 0 k rfl (by omega) hxt
      rw [Nat.zero_add] at this
      exact this
    have hw : wrap64 (((idxI x t : Nat) : Int) + 1) = ((idxI x t + 1 : Nat) : Int) := step64 hlt (by omega)
    have he := idxI_erase hxt
    have hlen : (t.take (idxI x t)).length + (t.drop (idxI x t + 1)).length = t.length - 1 := by rw [← List.length_append, he, hle]
    have hstep : True → wrap64 ((p : Int) + 1) = ((p + 1 : Nat) : Int) := fun _ => step64 hp (by omega)
    simp only [impl_moves.l0, rd, hx, moveP]
    rw [if_pos (by omega), if_pos (by omega), if_pos (by omega), hI]
    simp only [Option.bind_some]
    rw [if_pos (by omega), if_pos (by omega), hw, Int.toNat_natCast, Int.toNat_natCast]
    unfold slices_Clone_int64_int64.f
    rw [if_pos (by omega)]
    simp only [Option.bind_some]
    rw [if_pos (by omega), if_pos (by omega), if_pos (by omega), he, hstep trivial, w64_id (a := (t.length : Int) - 1) (by omega), w64_id (a := (t.length : Int) - 1 - _) (by omega), w64_id (by omega)]
    rw [ih (p + 1) k _ (t.erase x) hd' (fun y hy => (List.mem_erase_of_ne (fun e => by rw [e] at hy; exact n1 hy)).2 (hin y (List.mem_cons_of_mem _ hy))) n2 (by omega) (by omega) (by omega) (by omega)]
    congr 1
    omega
theorem moves_is (t r : List Int) (ht : t.length ≤ 1048576) (hr : r.length ≤ 1048576) (hin : ∀ y ∈ r, y ∈ t) (hn : r.Nodup) (k : Nat) (hk : r.length + t.length + 1 < k) : impl_moves.f k t r = some (moveP t r) := by
  unfold impl_moves.f slices_Clone_int64_int64.f
  rw [if_pos (by omega)]
  simp only [Option.bind_some]
  have e := moves_l0 r hr r 0 k 0 t rfl hin hn ht hk (by omega) (by omega)
  have e' : impl_moves.l0 k 0 t r (r.length : Int) 0 = _ := e
  rw [e', Int.zero_add]

/-- How many behind x are not of s. -/
def cntA (x : Int) (s : List Int) : Bool → List Int → Int
  | _, [] => 0
  | true, y :: q => (if s.contains y = true then 0 else 1) + cntA x s true q
  | false, y :: q => cntA x s (y == x) q
theorem cntA_in (x : Int) (s : List Int) : ∀ (q : List Int) (b : Bool), 0 ≤ cntA x s b q ∧ cntA x s b q ≤ q.length
  | [], b => by cases b <;> simp [cntA]
  | y :: q, true => by
    have := cntA_in x s q true
    simp only [cntA, List.length_cons]
    split <;> omega
  | y :: q, false => by
    have := cntA_in x s q (y == x)
    simp only [cntA, List.length_cons]
    omega
theorem spec_l1 (o r : List Int) (ho : o.length ≤ 1048576) (hr : r.length ≤ 1048576) (i : Nat) (hi : i < r.length) : ∀ (rest : List Int) (p k : Nat) (all : Int) (b : Bool), o.drop p = rest → rest.length + r.length + 2 < k → 0 ≤ all → all + (rest.length : Int) ≤ 4611686018427387904 →
    spec_l04Moves.l1 k o r all (i : Int) b (p : Int) = spec_l04Moves.l0 (k - rest.length - 1) o r (all + cntA r[i] (r.take i) b rest) ((i + 1 : Nat) : Int) := by
  intro rest
  induction rest with
  | nil =>
    intro p k all b hd hk _ _
    obtain ⟨k, rfl⟩ : ∃ m, k = m + 1 := ⟨k - 1, by omega⟩
    have := of_drop_nil hd
    simp only [spec_l04Moves.l1]
    rw [if_neg (by omega), step64 hi (by omega)]
    cases b <;> simp [cntA]
  | cons y rest ih =>
    intro p k all b hd hk h0 h1
    simp only [List.length_cons] at hk h1 ⊢
    obtain ⟨k, rfl⟩ : ∃ m, k = m + 1 := ⟨k - 1, by omega⟩
    obtain ⟨hp, hd', hy⟩ := of_drop hd
    have hri : ∀ d, r.getD ((i : Int)).toNat d = r[i] := fun d => by rw [Int.toNat_natCast, List.getD_eq_getElem?_getD, List.getElem?_eq_getElem hi]; rfl
    have e : k + 1 - (rest.length + 1) - 1 = k - rest.length - 1 := by omega
    simp only [spec_l04Moves.l1, rd, hy, hri]
    rw [if_pos (by omega), step64 hp (by omega), e]
    cases b with
    | true =>
      rw [if_pos rfl, if_pos (by omega), if_pos (by omega), if_pos (by omega), Int.toNat_natCast, l00Has_is (r.take i) y (by simp; omega) k (by simp; omega)]
      simp only [Option.bind_some, cntA]
      by_cases hc : (r.take i).contains y = true
      · rw [if_pos hc, if_pos hc, ih (p + 1) k all true hd' (by omega) h0 (by omega), Int.zero_add]
      · rw [if_neg hc, if_neg hc, w64_id (by omega), ih (p + 1) k (all + 1) true hd' (by omega) (by omega) (by omega), Int.add_assoc]
    | false =>
      rw [if_neg (by simp), if_pos (by omega), if_pos (by omega), if_pos (by omega), ih (p + 1) k all _ hd' (by omega) h0 (by omega)]
      rfl
def moveS (o : List Int) : List Int → List Int → Int
  | _, [] => 0
  | s, x :: xs => cntA x s false o + moveS o (s ++ [x]) xs
theorem spec_l0 (o r : List Int) (ho : o.length ≤ 1048576) (hr : r.length ≤ 1048576) : ∀ (rest : List Int) (i k : Nat) (all : Int), r.drop i = rest → rest.length * (o.length + 2) + o.length + r.length + 4 < k → 0 ≤ all → all + (rest.length : Int) * 1048576 ≤ 4611686018427387904 →
    spec_l04Moves.l0 k o r all (i : Int) = some (all + moveS o (r.take i) rest) := by
  intro rest
  induction rest with
  | nil =>
    intro i k all hd hk _ _
    obtain ⟨k, rfl⟩ : ∃ m, k = m + 1 := ⟨k - 1, by omega⟩
    have := of_drop_nil hd
    simp only [spec_l04Moves.l0, moveS]
    rw [if_neg (by omega), Int.add_zero]
  | cons x rest ih =>
    intro i k all hd hk h0 h1
    simp only [List.length_cons, Nat.succ_mul] at hk h1
    generalize hZ : rest.length * (o.length + 2) = Z at hk
    obtain ⟨k, rfl⟩ : ∃ m, k = m + 1 := ⟨k - 1, by omega⟩
    obtain ⟨hp, hd', hx⟩ := of_drop hd
    have hy : r[i] = x := by
      have := hx 0
      rw [Int.toNat_natCast, List.getD_eq_getElem?_getD, List.getElem?_eq_getElem hp] at this
      exact this
    have hc := cntA_in x (r.take i) o false
    simp only [spec_l04Moves.l0, moveS]
    rw [if_pos (by omega)]
    have e := spec_l1 o r ho hr i hp o 0 k all false rfl (by omega) h0 (by omega)
    have e' : spec_l04Moves.l1 k o r all (i : Int) false 0 = _ := e
    rw [e', hy, ih (i + 1) _ _ hd' (by rw [hZ]; omega) (by omega) (by omega), List.take_succ_eq_append_getElem hp, hy, Int.add_assoc]
def notIn (s : List Int) (y : Int) : Bool := !s.contains y
theorem cntA_true (x : Int) (s : List Int) : ∀ (q : List Int), cntA x s true q = ((q.filter (notIn s)).length : Int)
  | [] => by simp [cntA]
  | y :: q => by
    simp only [cntA, cntA_true x s q, List.filter_cons]
    by_cases hc : s.contains y = true
    · rw [if_pos hc, if_neg (by unfold notIn; rw [hc]; decide)]; omega
    · rw [if_neg hc, if_pos (by unfold notIn; simpa using hc), List.length_cons]; omega
theorem cntA_is (x : Int) (s : List Int) (hs : x ∉ s) : ∀ (o : List Int), x ∈ o → ((o.filter (notIn s)).length : Int) - 1 - idxI x (o.filter (notIn s)) = cntA x s false o
  | y :: q, h => by
    simp only [cntA, List.filter_cons]
    by_cases e : y = x
    · have hb : (y == x) = true := beq_iff_eq.2 e
      have hn : notIn s y = true := by unfold notIn; rw [e]; simpa using hs
      rw [hb, cntA_true, if_pos hn, idxI, if_pos e.symm, List.length_cons]
      omega
    · have hb : (y == x) = false := beq_eq_false_iff_ne.2 e
      have ih := cntA_is x s hs q (by rcases List.mem_cons.1 h with h | h; exact absurd h.symm e; exact h)
      rw [hb, ← ih]
      by_cases hn : notIn s y = true
      · rw [if_pos hn, idxI, if_neg (fun g => e g.symm), List.length_cons]
        omega
      · rw [if_neg hn]
theorem moveP_S (o : List Int) (ho : o.Nodup) : ∀ (rest s : List Int), rest.Nodup → (∀ x ∈ rest, x ∈ o ∧ x ∉ s) → moveP (o.filter (notIn s)) rest = moveS o s rest
  | [], s, _, _ => rfl
  | x :: rest, s, hn, h => by
    obtain ⟨n1, n2⟩ := List.nodup_cons.1 hn
    have hx := h x List.mem_cons_self
    have hf : (o.filter (notIn s)).erase x = o.filter (notIn (s ++ [x])) := by
      rw [List.Nodup.erase_eq_filter (ho.filter _) x, List.filter_filter]
      refine List.filter_congr fun y _ => ?_
      unfold notIn
      by_cases e : y = x
      · rw [e]; simp
      · have : (y != x) = true := bne_iff_ne.2 e
        rw [this, Bool.true_and]
        simp [e]
    simp only [moveP, moveS]
    rw [cntA_is x s hx.2 o hx.1, hf, moveP_S o ho rest (s ++ [x]) n2 (fun y hy => ⟨(h y (List.mem_cons_of_mem _ hy)).1, fun hm => by
      rcases List.mem_append.1 hm with hm | hm
      · exact (h y (List.mem_cons_of_mem _ hy)).2 hm
      · rw [List.mem_singleton.1 hm] at hy; exact n1 hy⟩)]
theorem moveP_is (o r : List Int) (ho : o.Nodup) (hn : r.Nodup) (h : ∀ x ∈ r, x ∈ o) : moveP o r = moveS o [] r := by
  have := moveP_S o ho r [] hn (fun x hx => ⟨h x hx, by simp⟩)
  rw [← this]
  congr 1
  exact (List.filter_eq_self.2 (fun y _ => by simp [notIn])).symm

/-- What both answer. -/
def movesR (l : List S73) (r : List Int) : Int × Int := if codeH l = 0 then (if okE l.length r = true then (moveP (cntI l.length) r, 0) else (0, 4)) else (0, codeH l)
theorem okE_ok {n : Nat} {r : List Int} (h : okE n r = true) : (∀ x ∈ r, x ∈ cntI n) ∧ r.Nodup ∧ r.length = n := by
  unfold okE at h
  rw [Bool.and_eq_true, decide_eq_true_iff, eachB_iff] at h
  exact ⟨fun x hx => cntI_mem.2 (h.1.1 x hx), h.1.2.1, h.2⟩
theorem implMovesFor_is (l : List S73) (r : List Int) (hl : l.length ≤ 1048576) (hr : r.length ≤ 1048576) (k : Nat) (hk : 2 * l.length + r.length + 10 < k) : impl_MovesFor.f k l r = some (movesR l r) := by
  unfold impl_MovesFor.f movesR
  rw [hullsCode_is l (by omega) k (by omega)]
  simp only [Option.bind_some]
  by_cases hc : codeH l = 0
  · rw [if_pos hc, if_pos hc]
    have h7 := (codeH_ok hc).1
    unfold impl_isOrder.f
    rw [if_pos ⟨by omega, by omega, by omega⟩, Int.toNat_natCast, sort_each]
    simp only [Option.bind_some]
    by_cases ho : okE l.length r = true
    · have hok := okE_ok ho
      rw [if_pos ho, if_pos ho, counting_is l.length (by omega) k (by omega)]
      simp only [Option.bind_some]
      rw [moves_is (cntI l.length) r (by rw [cntI_length]; omega) hr hok.1 hok.2.1 k (by rw [cntI_length]; omega)]
      rfl
    · rw [if_neg ho, if_neg ho]
  · rw [if_neg hc, if_neg hc]
theorem specFor_l0 (l : List S73) (r : List Int) (hl : l.length ≤ 7) (hr : r.length ≤ 1048576) (ho : okE l.length r = true) : ∀ (m i k : Nat), i + m = l.length → m + 200 < k → spec_MovesFor.l0 k l r (cntI i) (i : Int) = some (moveP (cntI l.length) r, 0) := by
  have hok := okE_ok ho
  intro m
  induction m with
  | zero =>
    intro i k hi hk
    obtain ⟨k, rfl⟩ : ∃ m, k = m + 1 := ⟨k - 1, by omega⟩
    have hin : i = l.length := by omega
    have hmul : r.length * (l.length + 2) ≤ 7 * 9 := Nat.mul_le_mul (by omega) (by omega)
    simp only [spec_MovesFor.l0]
    rw [if_neg (by omega), hin]
    unfold spec_l04Moves.f
    have e := spec_l0 (cntI l.length) r (by rw [cntI_length]; omega) hr r 0 k 0 rfl (by rw [cntI_length]; omega) (by omega) (by omega)
    have e' : spec_l04Moves.l0 k (cntI l.length) r 0 0 = _ := e
    rw [e', moveP_is _ r (cntI_nodup _) hok.2.1 hok.1, Int.zero_add]
    rfl
  | succ m ih =>
    intro i k hi hk
    obtain ⟨k, rfl⟩ : ∃ m, k = m + 1 := ⟨k - 1, by omega⟩
    have hc : cntI i ++ [(i : Int)] = cntI (i + 1) := by simp [cntI, List.range_succ]
    simp only [spec_MovesFor.l0]
    rw [if_pos (by omega), if_pos (by rw [cntI_length]; omega), step64 (show i < l.length by omega) (by omega), hc, ih (i + 1) k (by omega) (by omega)]
theorem specMovesFor_is (l : List S73) (r : List Int) (hl : l.length ≤ 1048576) (hr : r.length ≤ 1048576) (h8 : ∀ x ∈ l, In8 x) (k : Nat) (hk : l.length + 2 * r.length + 220 < k) : spec_MovesFor.f k l r = some (movesR l r) := by
  unfold spec_MovesFor.f spec_l04Leaving.f movesR
  rw [l04Asked_is l (by omega) h8 k (by omega)]
  simp only [Option.bind_some]
  by_cases hc : codeH l = 0
  · rw [if_pos hc, if_pos hc, each_is l.length hl r hr k (by omega)]
    simp only [Option.bind_some]
    by_cases ho : okE l.length r = true
    · rw [if_pos ho, if_pos ho, hc]
      simp only [Option.bind_some]
      rw [if_pos trivial]
      exact specFor_l0 l r (codeH_ok hc).1 hr ho l.length 0 k (by omega) (by omega)
    · rw [if_neg ho, if_neg ho]
      simp
  · rw [if_neg hc, if_neg hc]
    simp only [Option.bind_some]
    rw [if_neg hc]

theorem FnExactMovesFor : FnExactMovesFor.Said := by
  intro l r hm hy hok hm' hy' hok'
  have hl : l.length ≤ 93824992236885 := by omega
  have h8 := cvH_in hok
  have hlm : (l.map cvH).length = l.length := List.length_map ..
  refine ⟨2 * l.length + 2 * r.length + 230, ?_⟩
  unfold laws_FnExactMovesFor.f
  by_cases big0 : (r.length : Int) > 1048576
  · rw [if_pos big0]
  rw [if_neg big0, szHullS_is l _ hl (by omega) (by omega)]
  simp only [Option.bind_some]
  by_cases big : (1048576 : Int) < l.length
  · rw [if_pos big]; rfl
  · rw [if_neg big, if_neg (by omega), toHullS_is l hl _ (by omega)]
    simp only [Option.bind_some]
    rw [toInt64S_is r (by omega) _ (by omega)]
    simp only [Option.bind_some]
    rw [specMovesFor_is _ r (by omega) (by omega) h8 _ (by omega), implMovesFor_is _ r (by omega) (by omega) _ (by omega)]
    simp only [Option.bind_some, if_true, bne_self_eq_false, laws_FnExactMovesFor.j0, Bool.false_eq_true, if_false]
    rw [toHullS_is l hl _ (by omega), toInt64S_is r (by omega) _ (by omega)]
    simp only [Option.bind_some]
    rw [eqHullS_is _ (by omega) _ (by omega)]
    simp only [Option.bind_some, if_true]
    rw [eqInt64S_is _ (by omega) _ (by omega)]
    simp

end Go.Proofs.Ytjcdgimldhodiaa.Pure
