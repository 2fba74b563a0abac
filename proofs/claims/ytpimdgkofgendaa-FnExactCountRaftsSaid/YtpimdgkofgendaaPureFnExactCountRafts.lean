/- The program's CountRafts returns what the reference's CountRafts returns, for every list of hulls (of at most 2^20; longer ones the law lets by). -/
import Derived.Test.YtpimdgkofgendaaPFnExactCountRaftsx6
namespace Go.Proofs.Ytpimdgkofgendaa.Pure
open Go.RowKit Go.Proofs.Ytpimdgkofgendaa.PFnExactCountRafts Go.Proofs.YtpimdgkofgendaaW.PrintWords Go.Proofs.YtpimdgkofgendaaW.PrintLast Go.Proofs.YtpimdgkofgendaaW.PrintMore
set_option linter.unusedVariables false
set_option linter.unusedSimpArgs false

def cvH (x : S65) : S59 := ⟨x.f0, x.f1, x.f2⟩

theorem toHullS_l0 (l : List S65) (hl : l.length ≤ 1152921504606846976) : ∀ (rest : List S65) (p k : Nat) (ys : List S59), l.drop p = rest → ys.length = l.length → rest.length < k →
    laws_toHullS.l0 k l ys (p : Int) = some (ys.take p ++ rest.map cvH) := by
  intro rest
  induction rest with
  | nil =>
    intro p k ys hd hy hk
    obtain ⟨k, rfl⟩ : ∃ m, k = m + 1 := ⟨k - 1, by simp at hk; omega⟩
    have := of_drop_nil hd
    simp only [laws_toHullS.l0]
    rw [if_neg (by omega), List.take_of_length_le (by omega)]
    simp
  | cons x rest ih =>
    intro p k ys hd hy hk
    simp only [List.length_cons] at hk
    obtain ⟨k, rfl⟩ : ∃ m, k = m + 1 := ⟨k - 1, by omega⟩
    obtain ⟨hp, hd', hx⟩ := of_drop hd
    simp only [laws_toHullS.l0, laws_toHull.f, rd_T65, hx, Option.bind_some]
    rw [if_pos (by omega), if_pos (by omega), if_pos (by omega), step64 hp hl, ih (p + 1) k _ hd' (by simpa using hy) (by omega), Int.toNat_natCast, take_set_at _ _ _ (by omega)]
    simp [cvH]

theorem toHullS_is (l : List S65) (hl : l.length ≤ 93824992236885) (k : Nat) (hk : l.length < k) : laws_toHullS.f k l = some (l.map cvH) := by
  unfold laws_toHullS.f
  rw [if_pos (by omega), if_pos (by omega)]
  have := toHullS_l0 l (by omega) l 0 k (List.replicate (l.length : Int).toNat z59) rfl (by simp) hk
  simpa using this

theorem cvH_in {l : List S65} (h : ∀ x ∈ l, (Lit.int .i8 x.f0).wf = true ∧ (Lit.int .i8 x.f1).wf = true ∧ (Lit.int .i8 x.f2).wf = true) : ∀ x ∈ l.map cvH, In8 x := by
  intro x hx
  obtain ⟨y, hy, rfl⟩ := List.mem_map.1 hx
  exact ⟨i8_in (h y hy).1, i8_in (h y hy).2.1, i8_in (h y hy).2.2⟩

theorem eqHullS_l0 (l : List S59) (hl : l.length ≤ 1152921504606846976) : ∀ (rest : List S59) (p k : Nat), l.drop p = rest → rest.length < k → laws_eqHullS.l0 k l l (p : Int) = some true := by
  intro rest
  induction rest with
  | nil =>
    intro p k hd hk
    obtain ⟨k, rfl⟩ : ∃ m, k = m + 1 := ⟨k - 1, by simp at hk; omega⟩
    have := of_drop_nil hd
    simp only [laws_eqHullS.l0]
    rw [if_neg (by omega)]
  | cons x rest ih =>
    intro p k hd hk
    simp only [List.length_cons] at hk
    obtain ⟨k, rfl⟩ : ∃ m, k = m + 1 := ⟨k - 1, by omega⟩
    obtain ⟨hp, hd', hx⟩ := of_drop hd
    simp only [laws_eqHullS.l0, laws_eqHull.f, if_true, Option.bind_some]
    rw [if_pos (by omega), if_pos (by omega), if_pos (by omega), step64 hp hl]
    exact ih (p + 1) k hd' (by omega)

theorem eqHullS_is (l : List S59) (hl : l.length ≤ 1152921504606846976) (k : Nat) (hk : l.length < k) : laws_eqHullS.f k l l = some true := by
  unfold laws_eqHullS.f
  rw [if_pos rfl]
  exact eqHullS_l0 l hl l 0 k rfl hk

theorem szHullS_is (l : List S65) (a : Int) (hl : l.length ≤ 93824992236885) (h0 : 0 ≤ a) (h1 : a ≤ 1048576) : laws_szHullS.f l a = some (if a < l.length then -1 else a - l.length) := by
  unfold laws_szHullS.f
  rw [w64_id (by omega)]
  by_cases h : a < l.length
  · rw [if_pos (by omega), if_pos h]
  · rw [if_neg (by omega), if_neg h]

theorem l00In_is (a lo hi : Int) : spec_l00In.f a lo hi = some (decide (lo ≤ a ∧ a ≤ hi)) := by
  unfold spec_l00In.f
  repeat' split
  all_goals first | exact some_dec (by omega) | exact some_decF (by omega)

theorem vh_and (x : S59) : vh x = (decide (1 ≤ x.f0 ∧ x.f0 ≤ 40) && (decide (1 ≤ x.f1 ∧ x.f1 ≤ 100) && decide (1 ≤ x.f2 ∧ x.f2 ≤ 20))) := by
  unfold vh
  rw [← Bool.decide_and, ← Bool.decide_and]
  exact decide_eq_decide.2 (by omega)

theorem specValid_is (a b c : Int) (h : In8 ⟨a, b, c⟩) : spec_l04Hull.f a b c = some (vh ⟨a, b, c⟩) := by
  obtain ⟨h0, h1, h2⟩ := h
  simp only at h0 h1 h2
  unfold spec_l04Hull.f
  rw [w64_id (by omega), w64_id (by omega), w64_id (by omega), l00In_is, l00In_is, l00In_is, vh_and]
  simp only [Option.bind_some]
  cases decide (1 ≤ a ∧ a ≤ 40) <;> cases decide (1 ≤ b ∧ b ≤ 100) <;> rfl

theorem l04Asked_l0 (l : List S59) (hl : l.length ≤ 1152921504606846976) (h8 : ∀ x ∈ l, In8 x) : ∀ (rest : List S59) (p k : Nat), l.drop p = rest → rest.length < k →
    spec_l04Asked.l0 k l (p : Int) = some (if rest.all vh then (if l.length > 7 then 3 else 0) else 1) := by
  intro rest
  induction rest with
  | nil =>
    intro p k hd hk
    obtain ⟨k, rfl⟩ : ∃ m, k = m + 1 := ⟨k - 1, by simp at hk; omega⟩
    have := of_drop_nil hd
    simp only [spec_l04Asked.l0]
    rw [if_neg (by omega)]
    by_cases h : l.length > 7
    · rw [if_pos (by omega)]; simp [h]
    · rw [if_neg (by omega)]; simp [h]
  | cons x rest ih =>
    intro p k hd hk
    simp only [List.length_cons] at hk
    obtain ⟨k, rfl⟩ : ∃ m, k = m + 1 := ⟨k - 1, by omega⟩
    obtain ⟨hp, hd', hx⟩ := of_drop hd
    have hx8 : In8 x := h8 x (List.mem_of_mem_drop (by rw [hd]; exact List.mem_cons_self))
    simp only [spec_l04Asked.l0, rd_T59, hx, specValid_is _ _ _ hx8, Option.bind_some]
    rw [if_pos (by omega), if_pos (by omega), step64 hp hl, ih (p + 1) k hd' (by omega)]
    cases hv : vh x <;> simp [hv]

theorem l04Asked_is (l : List S59) (hl : l.length ≤ 1152921504606846976) (h8 : ∀ x ∈ l, In8 x) (k : Nat) (hk : l.length < k) : spec_l04Asked.f k l = some (codeH l) := by
  unfold spec_l04Asked.f codeH
  exact l04Asked_l0 l hl h8 l 0 k rfl hk

theorem specMay_is (x y : S59) (hx : In8 x) (hy : In8 y) : spec_l04May.f x.f0 x.f1 x.f2 y.f0 y.f1 y.f2 = some (mayH x y) := by
  obtain ⟨_, x1, x2⟩ := hx
  obtain ⟨_, y1, y2⟩ := hy
  unfold spec_l04May.f mayH
  rw [w64_id (a := x.f2) (by omega), w64_id (a := y.f2) (by omega), w64_id (a := x.f1) (by omega), w64_id (a := y.f1) (by omega), w64_id (by omega), w64_id (by omega)]
  repeat' split
  all_goals first | exact some_dec (by omega) | exact some_decF (by omega)

/-- The reference's orders: those that may go on, one hull after the other. -/
def okNext (l : List S59) (now : List Int) (i : Int) : Bool := match now.getLast? with
  | none => true
  | some j => mayH (rd_T59 l j) (rd_T59 l i)
def sieve (l : List S59) : Nat → List Int → List (List Int)
  | 0, now => [now]
  | d + 1, now => (List.range l.length).flatMap fun (i : Nat) => if now.contains (i : Int) || !okNext l now (i : Int) then [] else sieve l d (now ++ [(i : Int)])
def raftB (l : List S59) (o : List Int) : Bool := decide (wrongH (pickH l o) < 0)

theorem wrongFrom_snoc (r : List S59) : ∀ (i : Int) (x y : S59), 0 ≤ i → (wrongFrom i x (r ++ [y]) < 0 ↔ wrongFrom i x r < 0 ∧ mayH ((x :: r).getLast (by simp)) y = true) := by
  induction r with
  | nil =>
    intro i x y h0
    simp only [List.nil_append, wrongFrom, List.getLast_singleton]
    split
    · rename_i h; simp [h]
    · rename_i h; simp [h]; omega
  | cons z r ih =>
    intro i x y h0
    simp only [List.cons_append, wrongFrom]
    by_cases h : mayH x z = true
    · rw [if_pos h, if_pos h, ih (i + 1) z y (by omega)]
      simp
    · rw [if_neg h, if_neg h]
      constructor
      · intro g; omega
      · intro g; omega

theorem raftB_snoc (l : List S59) (now : List Int) (i : Int) : raftB l (now ++ [i]) = (raftB l now && okNext l now i) := by
  unfold raftB okNext
  cases now with
  | nil => simp [pickH, wrongH, wrongFrom]
  | cons j now =>
    have e : pickH l ((j :: now) ++ [i]) = rd_T59 l j :: (pickH l now ++ [rd_T59 l i]) := by simp [pickH]
    have e2 : pickH l (j :: now) = rd_T59 l j :: pickH l now := by simp [pickH]
    have e3 : (rd_T59 l j :: pickH l now).getLast (by simp) = rd_T59 l ((j :: now).getLast (by simp)) := by
      have : (rd_T59 l j :: pickH l now) = (j :: now).map fun i => rd_T59 l i := by simp [pickH]
      simp only [this]
      rw [List.getLast_map]
    have e4 : (j :: now).getLast? = some ((j :: now).getLast (by simp)) := List.getLast?_eq_some_getLast _
    have key := wrongFrom_snoc (pickH l now) 1 (rd_T59 l j) (rd_T59 l i) (by omega)
    rw [e3] at key
    rw [e, e2, e4]
    rw [Bool.eq_iff_iff, Bool.and_eq_true, decide_eq_true_iff, decide_eq_true_iff]
    exact key

theorem raftB_sieve (l : List S59) : ∀ (d : Nat) (now : List Int), (exts l.length d now).filter (raftB l) = if raftB l now then sieve l d now else [] := by
  intro d
  induction d with
  | zero =>
    intro now
    simp only [exts, sieve, List.filter_cons, List.filter_nil]
  | succ d ih =>
    intro now
    simp only [exts, sieve]
    rw [List.filter_flatMap]
    by_cases h : raftB l now = true
    · rw [if_pos h]
      refine congrArg (fun f => (List.range l.length).flatMap f) (funext fun i => ?_)
      by_cases hc : now.contains (i : Int) = true
      · rw [if_pos hc, if_pos (by rw [hc]; rfl)]
        rfl
      · rw [if_neg hc, ih, raftB_snoc, h, Bool.true_and]
        cases hk : okNext l now (i : Int) with
        | true => rw [if_pos rfl, if_neg (by simp; simpa using hc)]
        | false => rw [if_neg (by simp), if_pos (by simp)]
    · rw [if_neg h]
      rw [List.flatMap_eq_nil_iff]
      intro i _
      by_cases hc : now.contains (i : Int) = true
      · rw [if_pos hc]; rfl
      · rw [if_neg hc, ih, raftB_snoc]
        rw [if_neg (by simp [h])]

theorem sieve_length (l : List S59) (h7 : l.length ≤ 7) : ∀ (d : Nat) (now : List Int), (sieve l d now).length ≤ 7 ^ d := by
  intro d
  induction d with
  | zero => intro now; simp [sieve]
  | succ d ih =>
    intro now
    simp only [sieve, List.length_flatMap]
    have : ∀ (xs : List Nat), (List.map (fun (i : Nat) => (if now.contains (i : Int) || !okNext l now (i : Int) then [] else sieve l d (now ++ [(i : Int)])).length) xs).sum ≤ xs.length * 7 ^ d := by
      intro xs
      induction xs with
      | nil => simp
      | cons x xs ihx =>
        simp only [List.map_cons, List.sum_cons, List.length_cons, Nat.succ_mul]
        have : (if now.contains (x : Int) || !okNext l now (x : Int) then [] else sieve l d (now ++ [(x : Int)])).length ≤ 7 ^ d := by
          split
          · simp
          · exact ih _
        omega
    have h1 := this (List.range l.length)
    rw [List.length_range] at h1
    have h2 : l.length * 7 ^ d ≤ 7 * 7 ^ d := Nat.mul_le_mul_right _ h7
    rw [Nat.pow_succ, Nat.mul_comm (7 ^ d) 7]
    omega

theorem l00Has_l0 (l : List Int) (a : Int) (hl : l.length ≤ 1152921504606846976) : ∀ (rest : List Int) (p k : Nat), l.drop p = rest → rest.length < k → spec_l00Has.l0 k l a (p : Int) = some (rest.contains a) := by
  intro rest
  induction rest with
  | nil =>
    intro p k hd hk
    obtain ⟨k, rfl⟩ : ∃ m, k = m + 1 := ⟨k - 1, by simp at hk; omega⟩
    have := of_drop_nil hd
    simp only [spec_l00Has.l0]
    rw [if_neg (by omega)]
    rfl
  | cons x rest ih =>
    intro p k hd hk
    simp only [List.length_cons] at hk
    obtain ⟨k, rfl⟩ : ∃ m, k = m + 1 := ⟨k - 1, by omega⟩
    obtain ⟨hp, hd', hx⟩ := of_drop hd
    simp only [spec_l00Has.l0, rd, hx]
    rw [if_pos (by omega), if_pos (by omega), step64 hp hl, ih (p + 1) k hd' (by omega)]
    by_cases e : x = a
    · rw [if_pos e, e]; simp
    · rw [if_neg e, List.contains_cons]
      have : (a == x) = false := by simpa using fun h => e h.symm
      rw [this, Bool.false_or]
theorem l00Has_is (l : List Int) (a : Int) (hl : l.length ≤ 1152921504606846976) (k : Nat) (hk : l.length < k) : spec_l00Has.f k l a = some (l.contains a) := by
  unfold spec_l00Has.f
  exact l00Has_l0 l a hl l 0 k rfl hk
theorem l00Own_is (l : List Int) (hl : l.length < 17592186044416) : spec_l00Own.f l = some l := by
  unfold spec_l00Own.f
  simp only [Option.bind_some, List.length_nil, List.nil_append]
  rw [if_pos (by omega)]

def ordNeed (n d : Nat) : Nat := (d + 1) * (2 * n + 2) + n

theorem l04Orders_is (l : List S59) (h8 : ∀ x ∈ l, In8 x) (h7 : l.length ≤ 7) : ∀ (d : Nat) (now : List Int) (k : Nat), now.length + d = l.length → (∀ x ∈ now, 0 ≤ x ∧ x < l.length) → ordNeed l.length d < k → spec_l04Orders.f k l now = some (sieve l d now) := by
  have in8 : ∀ i : Int, 0 ≤ i → i < l.length → In8 (rd_T59 l i) := by
    intro i h0 h1
    refine h8 _ ?_
    rw [rd_T59, List.getD_eq_getElem?_getD, List.getElem?_eq_getElem (by omega)]
    exact List.getElem_mem _
  intro d
  induction d with
  | zero =>
    intro now k hl hin hk
    obtain ⟨k, rfl⟩ : ∃ m, k = m + 1 := ⟨k - 1, by omega⟩
    simp only [spec_l04Orders.f]
    rw [if_pos (by omega), l00Own_is now (by omega)]
    rfl
  | succ d ih =>
    intro now k hl hin hk
    have hsl0 := sieve_length l h7 d
    have hpow : 7 ^ d ≤ 117649 := Nat.le_trans (Nat.pow_le_pow_right (by omega) (show d ≤ 6 by omega)) (by decide)
    generalize 7 ^ d = P at hsl0 hpow
    have loop : ∀ (m i k : Nat) (acc : List (List Int)), i + m = l.length → 2 * m + ordNeed l.length d < k → acc.length ≤ i * P →
        spec_l04Orders.l0 k l now acc (i : Int) = some (acc ++ ((List.range l.length).drop i).flatMap fun (i : Nat) => if now.contains (i : Int) || !okNext l now (i : Int) then [] else sieve l d (now ++ [(i : Int)])) := by
      intro m
      induction m with
      | zero =>
        intro i k acc hi hk ha
        obtain ⟨k, rfl⟩ : ∃ m, k = m + 1 := ⟨k - 1, by omega⟩
        simp only [spec_l04Orders.l0]
        rw [if_neg (by omega), List.drop_eq_nil_of_le (by simp; omega)]
        simp
      | succ m ihm =>
        intro i k acc hi hk ha
        obtain ⟨k, rfl⟩ : ∃ m, k = m + 2 := ⟨k - 2, by omega⟩
        have hacc : acc.length ≤ 823543 := Nat.le_trans ha (Nat.le_trans (Nat.mul_le_mul (show i ≤ 7 by omega) hpow) (by decide))
        have hstep : ∀ s : List (List Int), s.length ≤ P → (acc ++ s).length ≤ (i + 1) * P := by
          intro s hs
          rw [List.length_append, Nat.succ_mul]
          exact Nat.add_le_add ha hs
        have hskip : acc.length ≤ (i + 1) * P := by
          rw [Nat.succ_mul]
          exact Nat.le_trans ha (Nat.le_add_right _ _)
        clear ha
        have hn : ordNeed l.length d ≥ l.length := by unfold ordNeed; omega
        rw [List.drop_eq_getElem_cons (by simp; omega), List.flatMap_cons]
        simp only [List.getElem_range, spec_l04Orders.l0]
        rw [if_pos (by omega), l00Has_is now i (by omega) _ (by omega)]
        simp only [Option.bind_some]
        have step : True → wrap64 ((i : Int) + 1) = ((i + 1 : Nat) : Int) := fun _ => step64 (show i < l.length by omega) (by omega)
        have skip : spec_l04Orders.j1 (k + 1) l now acc (i : Int) true = some (acc ++ ((List.range l.length).drop (i + 1)).flatMap fun (i : Nat) => if now.contains (i : Int) || !okNext l now (i : Int) then [] else sieve l d (now ++ [(i : Int)])) := by
          simp only [spec_l04Orders.j1, if_true]
          rw [step trivial]
          exact ihm (i + 1) k acc (by omega) (by omega) hskip
        by_cases hc : now.contains (i : Int) = true
        · rw [if_pos hc, skip, if_pos (by rw [hc]; rfl)]
          rfl
        · rw [if_neg hc]
          have take : okNext l now (i : Int) = true → spec_l04Orders.j1 (k + 1) l now acc (i : Int) false = some (acc ++ (sieve l d (now ++ [(i : Int)]) ++ ((List.range l.length).drop (i + 1)).flatMap fun (i : Nat) => if now.contains (i : Int) || !okNext l now (i : Int) then [] else sieve l d (now ++ [(i : Int)]))) := by
            intro hok
            have hsl : (sieve l d (now ++ [(i : Int)])).length ≤ 117649 := Nat.le_trans (hsl0 (now ++ [(i : Int)])) hpow
            simp only [spec_l04Orders.j1, Bool.false_eq_true, if_false]
            rw [l00Own_is now (by omega)]
            simp only [Option.bind_some]
            rw [if_pos (by omega), ih (now ++ [(i : Int)]) k (by simp; omega) (fun x hx => by
              rcases List.mem_append.1 hx with hx | hx
              · exact hin x hx
              · rw [List.mem_singleton.1 hx]; omega) (by omega)]
            simp only [Option.bind_some]
            rw [if_pos (by omega), step trivial, ihm (i + 1) k _ (by omega) (by omega) (hstep _ (hsl0 _))]
            simp
          by_cases hnow : (now.length : Int) > 0
          · have hw : wrap64 ((now.length : Int) - 1) = (now.length : Int) - 1 := w64_id (by omega)
            have hne : now ≠ [] := by intro e; rw [e] at hnow; simp at hnow
            have hlast : rd now ((now.length : Int) - 1) = now.getLast hne := by
              rw [rd, List.getD_eq_getElem?_getD, List.getLast_eq_getElem, List.getElem?_eq_getElem (by omega)]
              simp
            have hli := hin (now.getLast hne) (List.getLast_mem hne)
            rw [if_pos hnow, hw, if_pos (by omega), if_pos (by omega), hlast, if_pos hli.1, if_pos hli.2, if_pos (by omega)]
            rw [specMay_is _ _ (in8 _ hli.1 hli.2) (in8 (i : Int) (by omega) (by omega))]
            simp only [Option.bind_some]
            have hk2 : okNext l now (i : Int) = mayH (rd_T59 l (now.getLast hne)) (rd_T59 l (i : Int)) := by
              unfold okNext
              rw [List.getLast?_eq_some_getLast hne]
            rw [← hk2]
            cases hok : okNext l now (i : Int) with
            | true =>
              rw [Bool.not_true, take hok, if_neg (by simp; simpa using hc)]
            | false =>
              rw [Bool.not_false, skip, if_pos (by simp)]
              rfl
          · rw [if_neg hnow]
            have hnil : now = [] := List.length_eq_zero_iff.1 (by omega)
            have hok : okNext l now (i : Int) = true := by rw [hnil]; rfl
            rw [take hok, if_neg (by rw [hok]; simp; simpa using hc)]
    obtain ⟨k, rfl⟩ : ∃ m, k = m + 1 := ⟨k - 1, by omega⟩
    simp only [spec_l04Orders.f]
    rw [if_neg (by omega)]
    have := loop l.length 0 k [] (by omega) (by
      unfold ordNeed at hk ⊢
      rw [Nat.succ_mul] at hk
      omega) (by simp)
    simpa [sieve] using this

/-- The law, in plain Lean. -/
def FnExactCountRafts.Said : Prop := ∀ (l0 : List S65), l0.length ≤ maxLen → l0.length * 3 ≤ 140737488351232 → (∀ x ∈ l0, (Lit.int .i8 x.f0).wf = true ∧ (Lit.int .i8 x.f1).wf = true ∧ (Lit.int .i8 x.f2).wf = true) → ∃ k, laws_FnExactCountRafts.f k l0 = some true

theorem count_run (l : List S59) : ∀ (os : List (List Int)) (m : Int), 0 ≤ m → m + os.length ≤ 4611686018427387904 → runAll (countSt l) m os = (m + ((os.filter (raftB l)).length : Int), true)
  | [], m, _, _ => by simp [runAll]
  | o :: os, m, h0, h1 => by
    simp only [List.length_cons] at h1
    simp only [runAll, countSt, if_true, List.filter_cons]
    by_cases h : wrongH (pickH l o) < 0
    · have hb : raftB l o = true := decide_eq_true h
      rw [if_pos h, w64_id (by omega), count_run l os (m + 1) (by omega) (by omega), if_pos hb]
      simp only [List.length_cons]
      congr 1
      omega
    · have hb : ¬ raftB l o = true := fun g => h (of_decide_eq_true g)
      rw [if_neg h, count_run l os m (by omega) (by omega), if_neg hb]

theorem exts_length (n : Nat) (h7 : n ≤ 7) : ∀ (d : Nat) (now : List Int), (exts n d now).length ≤ 7 ^ d := by
  intro d
  induction d with
  | zero => intro now; simp [exts]
  | succ d ih =>
    intro now
    simp only [exts, List.length_flatMap]
    have : ∀ (xs : List Nat), (List.map (fun (i : Nat) => (if now.contains (i : Int) then [] else exts n d (now ++ [(i : Int)])).length) xs).sum ≤ xs.length * 7 ^ d := by
      intro xs
      induction xs with
      | nil => simp
      | cons x xs ihx =>
        simp only [List.map_cons, List.sum_cons, List.length_cons, Nat.succ_mul]
        have : (if now.contains (x : Int) then [] else exts n d (now ++ [(x : Int)])).length ≤ 7 ^ d := by
          split
          · simp
          · exact ih _
        omega
    have h1 := this (List.range n)
    rw [List.length_range] at h1
    have h2 : n * 7 ^ d ≤ 7 * 7 ^ d := Nat.mul_le_mul_right _ h7
    rw [Nat.pow_succ, Nat.mul_comm (7 ^ d) 7]
    omega

theorem countR_is (l : List S59) (h7 : l.length ≤ 7) : countR l = ((sieve l l.length []).length : Int) := by
  have h1 := exts_length l.length h7 l.length []
  have h2 : 7 ^ l.length ≤ 7 ^ 7 := Nat.pow_le_pow_right (by omega) h7
  unfold countR
  rw [count_run l _ 0 (by omega) (by omega), raftB_sieve]
  have : raftB l [] = true := by simp [raftB, pickH, wrongH]
  rw [if_pos this]
  simp

theorem specCount_is (l : List S59) (hl : l.length ≤ 93824992236885) (h8 : ∀ x ∈ l, In8 x) (k : Nat) (hk : l.length < k) (hk2 : 1000 < k) :
    spec_CountRafts.f k l = some (if codeH l = 0 then (countR l, 0) else (0, codeH l)) := by
  unfold spec_CountRafts.f
  rw [l04Asked_is l (by omega) h8 k hk]
  simp only [Option.bind_some]
  split
  · rename_i hc
    have h7 := (codeH_ok hc).1
    rw [l04Orders_is l h8 h7 l.length [] k (by simp) (by simp) (by
      have : ordNeed l.length l.length ≤ 1000 := by
        unfold ordNeed
        have : (l.length + 1) * (2 * l.length + 2) ≤ 8 * 16 := Nat.mul_le_mul (by omega) (by omega)
        omega
      omega), countR_is l h7]
    rfl
  · rfl

theorem FnExactCountRafts : FnExactCountRafts.Said := by
  intro l hm hy hok
  have hl : l.length ≤ 93824992236885 := by omega
  have h8 := cvH_in hok
  have hlm : (l.map cvH).length = l.length := List.length_map ..
  refine ⟨l.length + 1002, ?_⟩
  unfold laws_FnExactCountRafts.f
  rw [szHullS_is l _ hl (by omega) (by omega)]
  simp only [Option.bind_some]
  by_cases big : (1048576 : Int) < l.length
  · rw [if_pos big]; rfl
  · rw [if_neg big, if_neg (by omega), toHullS_is l hl _ (by omega)]
    simp only [Option.bind_some]
    rw [specCount_is _ (by omega) h8 _ (by omega) (by omega)]
    have hb : (l.map cvH).length ≤ 1048576 := by omega
    unfold impl_CountRafts.f
    rw [if_pos hb]
    simp only [Option.bind_some]
    by_cases hc : codeH (l.map cvH) = 0
    · simp only [if_pos hc, if_true, bne_self_eq_false, laws_FnExactCountRafts.j0, Bool.false_eq_true, if_false]
      rw [toHullS_is l hl _ (by omega)]
      simp only [Option.bind_some]
      rw [eqHullS_is _ (by omega) _ (by omega)]
      rfl
    · simp only [if_neg hc, if_true, bne_self_eq_false, laws_FnExactCountRafts.j0, Bool.false_eq_true, if_false]
      rw [toHullS_is l hl _ (by omega)]
      simp only [Option.bind_some]
      rw [eqHullS_is _ (by omega) _ (by omega)]
      rfl

end Go.Proofs.Ytpimdgkofgendaa.Pure
