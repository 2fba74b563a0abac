/- The program's RaftOrder returns what the reference's RaftOrder returns, for every list of hulls (of at most 2^20; longer ones the law lets by). -/
import Derived.Test.YtpimdgkofgendaaPFnExactRaftOrderx7
namespace Go.Proofs.Ytpimdgkofgendaa.Pure
open Go.RowKit Go.Proofs.Ytpimdgkofgendaa.PFnExactRaftOrder Go.Proofs.YtpimdgkofgendaaW.PrintWords Go.Proofs.YtpimdgkofgendaaW.PrintLast Go.Proofs.YtpimdgkofgendaaW.PrintMore
set_option linter.unusedVariables false
set_option linter.unusedSimpArgs false

def cvH (x : S65) : S59 := ⟨x.f0, x.f1, x.f2⟩

theorem toHullS_l0 (l : List S65) (hl : l.length ≤ 1152921504606846976) : ∀ (rest : List S65) (p k : Nat) (ys : List S59), l.drop p = rest → ys.length = l.length → rest.length < k →
    laws_toHullS.l0 k l ys (p : Int) = some (ys.take p ++ rest.map cvH) := by
  intro rest
  induction rest with
  | nil =>
    intro p k ys hd hy hk
    obtain ⟨k, rfl⟩ : ∃ m, k = m + 1 := ⟨k - 1, by simp at hk; omega⟩
    have := of_drop_nil hd
    simp only [laws_toHullS.l0]
    rw [if_neg (by omega), List.take_of_length_le (by omega)]
    simp
  | cons x rest ih =>
    intro p k ys hd hy hk
    simp only [List.length_cons] at hk
    obtain ⟨k, rfl⟩ : ∃ m, k = m + 1 := ⟨k - 1, by omega⟩
    obtain ⟨hp, hd', hx⟩ := of_drop hd
    simp only [laws_toHullS.l0, laws_toHull.f, rd_T65, hx, Option.bind_some]
    rw [if_pos (by omega), if_pos (by omega), if_pos (by omega), step64 hp hl, ih (p + 1) k _ hd' (by simpa using hy) (by omega), Int.toNat_natCast, take_set_at _ _ _ (by omega)]
    simp [cvH]

theorem toHullS_is (l : List S65) (hl : l.length ≤ 93824992236885) (k : Nat) (hk : l.length < k) : laws_toHullS.f k l = some (l.map cvH) := by
  unfold laws_toHullS.f
  rw [if_pos (by omega), if_pos (by omega)]
  have := toHullS_l0 l (by omega) l 0 k (List.replicate (l.length : Int).toNat z59) rfl (by simp) hk
  simpa using this

theorem cvH_in {l : List S65} (h : ∀ x ∈ l, (Lit.int .i8 x.f0).wf = true ∧ (Lit.int .i8 x.f1).wf = true ∧ (Lit.int .i8 x.f2).wf = true) : ∀ x ∈ l.map cvH, In8 x := by
  intro x hx
  obtain ⟨y, hy, rfl⟩ := List.mem_map.1 hx
  exact ⟨i8_in (h y hy).1, i8_in (h y hy).2.1, i8_in (h y hy).2.2⟩

theorem eqHullS_l0 (l : List S59) (hl : l.length ≤ 1152921504606846976) : ∀ (rest : List S59) (p k : Nat), l.drop p = rest → rest.length < k → laws_eqHullS.l0 k l l (p : Int) = some true := by
  intro rest
  induction rest with
  | nil =>
    intro p k hd hk
    obtain ⟨k, rfl⟩ : ∃ m, k = m + 1 := ⟨k - 1, by simp at hk; omega⟩
    have := of_drop_nil hd
    simp only [laws_eqHullS.l0]
    rw [if_neg (by omega)]
  | cons x rest ih =>
    intro p k hd hk
    simp only [List.length_cons] at hk
    obtain ⟨k, rfl⟩ : ∃ m, k = m + 1 := ⟨k - 1, by omega⟩
    obtain ⟨hp, hd', hx⟩ := of_drop hd
    simp only [laws_eqHullS.l0, laws_eqHull.f, if_true, Option.bind_some]
    rw [if_pos (by omega), if_pos (by omega), if_pos (by omega), step64 hp hl]
    exact ih (p + 1) k hd' (by omega)

theorem eqHullS_is (l : List S59) (hl : l.length ≤ 1152921504606846976) (k : Nat) (hk : l.length < k) : laws_eqHullS.f k l l = some true := by
  unfold laws_eqHullS.f
  rw [if_pos rfl]
  exact eqHullS_l0 l hl l 0 k rfl hk

theorem szHullS_is (l : List S65) (a : Int) (hl : l.length ≤ 93824992236885) (h0 : 0 ≤ a) (h1 : a ≤ 1048576) : laws_szHullS.f l a = some (if a < l.length then -1 else a - l.length) := by
  unfold laws_szHullS.f
  rw [w64_id (by omega)]
  by_cases h : a < l.length
  · rw [if_pos (by omega), if_pos h]
  · rw [if_neg (by omega), if_neg h]

theorem l00In_is (a lo hi : Int) : spec_l00In.f a lo hi = some (decide (lo ≤ a ∧ a ≤ hi)) := by
  unfold spec_l00In.f
  repeat' split
  all_goals first | exact some_dec (by omega) | exact some_decF (by omega)

theorem vh_and (x : S59) : vh x = (decide (1 ≤ x.f0 ∧ x.f0 ≤ 40) && (decide (1 ≤ x.f1 ∧ x.f1 ≤ 100) && decide (1 ≤ x.f2 ∧ x.f2 ≤ 20))) := by
  unfold vh
  rw [← Bool.decide_and, ← Bool.decide_and]
  exact decide_eq_decide.2 (by omega)

theorem specValid_is (a b c : Int) (h : In8 ⟨a, b, c⟩) : spec_l04Hull.f a b c = some (vh ⟨a, b, c⟩) := by
  obtain ⟨h0, h1, h2⟩ := h
  simp only at h0 h1 h2
  unfold spec_l04Hull.f
  rw [w64_id (by omega), w64_id (by omega), w64_id (by omega), l00In_is, l00In_is, l00In_is, vh_and]
  simp only [Option.bind_some]
  cases decide (1 ≤ a ∧ a ≤ 40) <;> cases decide (1 ≤ b ∧ b ≤ 100) <;> rfl

theorem l04Asked_l0 (l : List S59) (hl : l.length ≤ 1152921504606846976) (h8 : ∀ x ∈ l, In8 x) : ∀ (rest : List S59) (p k : Nat), l.drop p = rest → rest.length < k →
    spec_l04Asked.l0 k l (p : Int) = some (if rest.all vh then (if l.length > 7 then 3 else 0) else 1) := by
  intro rest
  induction rest with
  | nil =>
    intro p k hd hk
    obtain ⟨k, rfl⟩ : ∃ m, k = m + 1 := ⟨k - 1, by simp at hk; omega⟩
    have := of_drop_nil hd
    simp only [spec_l04Asked.l0]
    rw [if_neg (by omega)]
    by_cases h : l.length > 7
    · rw [if_pos (by omega)]; simp [h]
    · rw [if_neg (by omega)]; simp [h]
  | cons x rest ih =>
    intro p k hd hk
    simp only [List.length_cons] at hk
    obtain ⟨k, rfl⟩ : ∃ m, k = m + 1 := ⟨k - 1, by omega⟩
    obtain ⟨hp, hd', hx⟩ := of_drop hd
    have hx8 : In8 x := h8 x (List.mem_of_mem_drop (by rw [hd]; exact List.mem_cons_self))
    simp only [spec_l04Asked.l0, rd_T59, hx, specValid_is _ _ _ hx8, Option.bind_some]
    rw [if_pos (by omega), if_pos (by omega), step64 hp hl, ih (p + 1) k hd' (by omega)]
    cases hv : vh x <;> simp [hv]

theorem l04Asked_is (l : List S59) (hl : l.length ≤ 1152921504606846976) (h8 : ∀ x ∈ l, In8 x) (k : Nat) (hk : l.length < k) : spec_l04Asked.f k l = some (codeH l) := by
  unfold spec_l04Asked.f codeH
  exact l04Asked_l0 l hl h8 l 0 k rfl hk

theorem specMay_is (x y : S59) (hx : In8 x) (hy : In8 y) : spec_l04May.f x.f0 x.f1 x.f2 y.f0 y.f1 y.f2 = some (mayH x y) := by
  obtain ⟨_, x1, x2⟩ := hx
  obtain ⟨_, y1, y2⟩ := hy
  unfold spec_l04May.f mayH
  rw [w64_id (a := x.f2) (by omega), w64_id (a := y.f2) (by omega), w64_id (a := x.f1) (by omega), w64_id (a := y.f1) (by omega), w64_id (by omega), w64_id (by omega)]
  repeat' split
  all_goals first | exact some_dec (by omega) | exact some_decF (by omega)

/-- The reference's orders: those that may go on, one hull after the other. -/
def okNext (l : List S59) (now : List Int) (i : Int) : Bool := match now.getLast? with
  | none => true
  | some j => mayH (rd_T59 l j) (rd_T59 l i)
def sieve (l : List S59) : Nat → List Int → List (List Int)
  | 0, now => [now]
  | d + 1, now => (List.range l.length).flatMap fun (i : Nat) => if now.contains (i : Int) || !okNext l now (i : Int) then [] else sieve l d (now ++ [(i : Int)])
def raftB (l : List S59) (o : List Int) : Bool := decide (wrongH (pickH l o) < 0)

theorem wrongFrom_snoc (r : List S59) : ∀ (i : Int) (x y : S59), 0 ≤ i → (wrongFrom i x (r ++ [y]) < 0 ↔ wrongFrom i x r < 0 ∧ mayH ((x :: r).getLast (by simp)) y = true) := by
  induction r with
  | nil =>
    intro i x y h0
    simp only [List.nil_append, wrongFrom, List.getLast_singleton]
    split
    · rename_i h; simp [h]
    · rename_i h; simp [h]; omega
  | cons z r ih =>
    intro i x y h0
    simp only [List.cons_append, wrongFrom]
    by_cases h : mayH x z = true
    · rw [if_pos h, if_pos h, ih (i + 1) z y (by omega)]
      simp
    · rw [if_neg h, if_neg h]
      constructor
      · intro g; omega
      · intro g; omega

theorem raftB_snoc (l : List S59) (now : List Int) (i : Int) : raftB l (now ++ [i]) = (raftB l now && okNext l now i) := by
  unfold raftB okNext
  cases now with
  | nil => simp [pickH, wrongH, wrongFrom]
  | cons j now =>
    have e : pickH l ((j :: now) ++ [i]) = rd_T59 l j :: (pickH l now ++ [rd_T59 l i]) := by simp [pickH]
    have e2 : pickH l (j :: now) = rd_T59 l j :: pickH l now := by simp [pickH]
    have e3 : (rd_T59 l j :: pickH l now).getLast (by simp) = rd_T59 l ((j :: now).getLast (by simp)) := by
      have : (rd_T59 l j :: pickH l now) = (j :: now).map fun i => rd_T59 l i := by simp [pickH]
      simp only [this]
      rw [List.getLast_map]
    have e4 : (j :: now).getLast? = some ((j :: now).getLast (by simp)) := List.getLast?_eq_some_getLast _
    have key := wrongFrom_snoc (pickH l now) 1 (rd_T59 l j) (rd_T59 l i) (by omega)
    rw [e3] at key
    rw [e, e2, e4]
    rw [Bool.eq_iff_iff, Bool.and_eq_true, decide_eq_true_iff, decide_eq_true_iff]
    exact key

theorem raftB_sieve (l : List S59) : ∀ (d : Nat) (now : List Int), (exts l.length d now).filter (raftB l) = if raftB l now then sieve l d now else [] := by
  intro d
  induction d with
  | zero =>
    intro now
    simp only [exts, sieve, List.filter_cons, List.filter_nil]
  | succ d ih =>
    intro now
    simp only [exts, sieve]
    rw [List.filter_flatMap]
    by_cases h : raftB l now = true
    · rw [if_pos h]
      refine congrArg (fun f => (List.range l.length).flatMap f) (funext fun i => ?_)
      by_cases hc : now.contains (i : Int) = true
      · rw [if_pos hc, if_pos (by rw [hc]; rfl)]
        rfl
      · rw [if_neg hc, ih, raftB_snoc, h, Bool.true_and]
        cases hk : okNext l now (i : Int) with
        | true => rw [if_pos rfl, if_neg (by simp; simpa using hc)]
        | false => rw [if_neg (by simp), if_pos (by simp)]
    · rw [if_neg h]
      rw [List.flatMap_eq_nil_iff]
      intro i _
      by_cases hc : now.contains (i : Int) = true
      · rw [if_pos hc]; rfl
      · rw [if_neg hc, ih, raftB_snoc]
        rw [if_neg (by simp [h])]

theorem sieve_length (l : List S59) (h7 : l.length ≤ 7) : ∀ (d : Nat) (now : List Int), (sieve l d now).length ≤ 7 ^ d := by
  intro d
  induction d with
  | zero => intro now; simp [sieve]
  | succ d ih =>
    intro now
    simp only [sieve, List.length_flatMap]
    have : ∀ (xs : List Nat), (List.map (fun (i : Nat) => (if now.contains (i : Int) || !okNext l now (i : Int) then [] else sieve l d (now ++ [(i : Int)])).length) xs).sum ≤ xs.length * 7 ^ d := by
      intro xs
      induction xs with
      | nil => simp
      | cons x xs ihx =>
        simp only [List.map_cons, List.sum_cons, List.length_cons, Nat.succ_mul]
        have : (if now.contains (x : Int) || !okNext l now (x : Int) then [] else sieve l d (now ++ [(x : Int)])).length ≤ 7 ^ d := by
          split
          · simp
          · exact ih _
        omega
    have h1 := this (List.range l.length)
    rw [List.length_range] at h1
    have h2 : l.length * 7 ^ d ≤ 7 * 7 ^ d := Nat.mul_le_mul_right _ h7
    rw [Nat.pow_succ, Nat.mul_comm (7 ^ d) 7]
    omega

theorem l00Has_l0 (l : List Int) (a : Int) (hl : l.length ≤ 1152921504606846976) : ∀ (rest : List Int) (p k : Nat), l.drop p = rest → rest.length < k → spec_l00Has.l0 k l a (p : Int) = some (rest.contains a) := by
  intro rest
  induction rest with
  | nil =>
    intro p k hd hk
    obtain ⟨k, rfl⟩ : ∃ m, k = m + 1 := ⟨k - 1, by simp at hk; omega⟩
    have := of_drop_nil hd
    simp only [spec_l00Has.l0]
    rw [if_neg (by omega)]
    rfl
  | cons x rest ih =>
    intro p k hd hk
    simp only [List.length_cons] at hk
    obtain ⟨k, rfl⟩ : ∃ m, k = m + 1 := ⟨k - 1, by omega⟩
    obtain ⟨hp, hd', hx⟩ := of_drop hd
    simp only [spec_l00Has.l0, rd, hx]
    rw [if_pos (by omega), if_pos (by omega), step64 hp hl, ih (p + 1) k hd' (by omega)]
    by_cases e : x = a
    · rw [if_pos e, e]; simp
    · rw [if_neg e, List.contains_cons]
      have : (a == x) = false := by simpa using fun h => e h.symm
      rw [this, Bool.false_or]
theorem l00Has_is (l : List Int) (a : Int) (hl : l.length ≤ 1152921504606846976) (k : Nat) (hk : l.length < k) : spec_l00Has.f k l a = some (l.contains a) := by
  unfold spec_l00Has.f
  exact l00Has_l0 l a hl l 0 k rfl hk
theorem l00Own_is (l : List Int) (hl : l.length < 17592186044416) : spec_l00Own.f l = some l := by
  unfold spec_l00Own.f
  simp only [Option.bind_some, List.length_nil, List.nil_append]
  rw [if_pos (by omega)]

def ordNeed (n d : Nat) : Nat := (d + 1) * (2 * n + 2) + n

theorem l04Orders_is (l : List S59) (h8 : ∀ x ∈ l, In8 x) (h7 : l.length ≤ 7) : ∀ (d : Nat) (now : List Int) (k : Nat), now.length + d = l.length → (∀ x ∈ now, 0 ≤ x ∧ x < l.length) → ordNeed l.length d < k → spec_l04Orders.f k l now = some (sieve l d now) := by
  have in8 : ∀ i : Int, 0 ≤ i → i < l.length → In8 (rd_T59 l i) := by
    intro i h0 h1
    refine h8 _ ?_
    rw [rd_T59, List.getD_eq_getElem?_getD, List.getElem?_eq_getElem (by omega)]
    exact List.getElem_mem _
  intro d
  induction d with
  | zero =>
    intro now k hl hin hk
    obtain ⟨k, rfl⟩ : ∃ m, k = m + 1 := ⟨k - 1, by omega⟩
    simp only [spec_l04Orders.f]
    rw [if_pos (by omega), l00Own_is now (by omega)]
    rfl
  | succ d ih =>
    intro now k hl hin hk
    have hsl0 := sieve_length l h7 d
    have hpow : 7 ^ d ≤ 117649 := Nat.le_trans (Nat.pow_le_pow_right (by omega) (show d ≤ 6 by omega)) (by decide)
    generalize 7 ^ d = P at hsl0 hpow
    have loop : ∀ (m i k : Nat) (acc : List (List Int)), i + m = l.length → 2 * m + ordNeed l.length d < k → acc.length ≤ i * P →
        spec_l04Orders.l0 k l now acc (i : Int) = some (acc ++ ((List.range l.length).drop i).flatMap fun (i : Nat) => if now.contains (i : Int) || !okNext l now (i : Int) then [] else sieve l d (now ++ [(i : Int)])) := by
      intro m
      induction m with
      | zero =>
        intro i k acc hi hk ha
        obtain ⟨k, rfl⟩ : ∃ m, k = m + 1 := ⟨k - 1, by omega⟩
        simp only [spec_l04Orders.l0]
        rw [if_neg (by omega), List.drop_eq_nil_of_le (by simp; omega)]
        simp
      | succ m ihm =>
        intro i k acc hi hk ha
        obtain ⟨k, rfl⟩ : ∃ m, k = m + 2 := ⟨k - 2, by omega⟩
        have hacc : acc.length ≤ 823543 := Nat.le_trans ha (Nat.le_trans (Nat.mul_le_mul (show i ≤ 7 by omega) hpow) (by decide))
        have hstep : ∀ s : List (List Int), s.length ≤ P → (acc ++ s).length ≤ (i + 1) * P := by
          intro s hs
          rw [List.length_append, Nat.succ_mul]
          exact Nat.add_le_add ha hs
        have hskip : acc.length ≤ (i + 1) * P := by
          rw [Nat.succ_mul]
          exact Nat.le_trans ha (Nat.le_add_right _ _)
        clear ha
        have hn : ordNeed l.length d ≥ l.length := by unfold ordNeed; omega
        rw [List.drop_eq_getElem_cons (by simp; omega), List.flatMap_cons]
        simp only [List.getElem_range, spec_l04Orders.l0]
        rw [if_pos (by omega), l00Has_is now i (by omega) _ (by omega)]
        simp only [Option.bind_some]
        have step : True → wrap64 ((i : Int) + 1) = ((i + 1 : Nat) : Int) := fun _ => step64 (show i < l.length by omega) (by omega)
        have skip : spec_l04Orders.j1 (k + 1) l now acc (i : Int) true = some (acc ++ ((List.range l.length).drop (i + 1)).flatMap fun (i : Nat) => if now.contains (i : Int) || !okNext l now (i : Int) then [] else sieve l d (now ++ [(i : Int)])) := by
          simp only [spec_l04Orders.j1, if_true]
          rw [step trivial]
          exact ihm (i + 1) k acc (by omega) (by omega) hskip
        by_cases hc : now.contains (i : Int) = true
        · rw [if_pos hc, skip, if_pos (by rw [hc]; rfl)]
          rfl
        · rw [if_neg hc]
          have take : okNext l now (i : Int) = true → spec_l04Orders.j1 (k + 1) l now acc (i : Int) false = some (acc ++ (sieve l d (now ++ [(i : Int)]) ++ ((List.range l.length).drop (i + 1)).flatMap fun (i : Nat) => if now.contains (i : Int) || !okNext l now (i : Int) then [] else sieve l d (now ++ [(i : Int)]))) := by
            intro hok
            have hsl : (sieve l d (now ++ [(i : Int)])).length ≤ 117649 := Nat.le_trans (hsl0 (now ++ [(i : Int)])) hpow
            simp only [spec_l04Orders.j1, Bool.false_eq_true, if_false]
            rw [l00Own_is now (by omega)]
            simp only [Option.bind_some]
            rw [if_pos (by omega), ih (now ++ [(i : Int)]) k (by simp; omega) (fun x hx => by
              rcases List.mem_append.1 hx with hx | hx
              · exact hin x hx
              · rw [List.mem_singleton.1 hx]; omega) (by omega)]
            simp only [Option.bind_some]
            rw [if_pos (by omega), step trivial, ihm (i + 1) k _ (by omega) (by omega) (hstep _ (hsl0 _))]
            simp
          by_cases hnow : (now.length : Int) > 0
          · have hw : wrap64 ((now.length : Int) - 1) = (now.length : Int) - 1 := w64_id (by omega)
            have hne : now ≠ [] := by intro e; rw [e] at hnow; simp at hnow
            have hlast : rd now ((now.length : Int) - 1) = now.getLast hne := by
              rw [rd, List.getD_eq_getElem?_getD, List.getLast_eq_getElem, List.getElem?_eq_getElem (by omega)]
              simp
            have hli := hin (now.getLast hne) (List.getLast_mem hne)
            rw [if_pos hnow, hw, if_pos (by omega), if_pos (by omega), hlast, if_pos hli.1, if_pos hli.2, if_pos (by omega)]
            rw [specMay_is _ _ (in8 _ hli.1 hli.2) (in8 (i : Int) (by omega) (by omega))]
            simp only [Option.bind_some]
            have hk2 : okNext l now (i : Int) = mayH (rd_T59 l (now.getLast hne)) (rd_T59 l (i : Int)) := by
              unfold okNext
              rw [List.getLast?_eq_some_getLast hne]
            rw [← hk2]
            cases hok : okNext l now (i : Int) with
            | true =>
              rw [Bool.not_true, take hok, if_neg (by simp; simpa using hc)]
            | false =>
              rw [Bool.not_false, skip, if_pos (by simp)]
              rfl
          · rw [if_neg hnow]
            have hnil : now = [] := List.length_eq_zero_iff.1 (by omega)
            have hok : okNext l now (i : Int) = true := by rw [hnil]; rfl
            rw [take hok, if_neg (by rw [hok]; simp; simpa using hc)]
    obtain ⟨k, rfl⟩ : ∃ m, k = m + 1 := ⟨k - 1, by omega⟩
    simp only [spec_l04Orders.f]
    rw [if_neg (by omega)]
    have := loop l.length 0 k [] (by omega) (by
      unfold ordNeed at hk ⊢
      rw [Nat.succ_mul] at hk
      omega) (by simp)
    simpa [sieve] using this

/-! The law's harness over a result that is a list of whole numbers. -/
theorem eqInt64S_l0 (l : List Int) (hl : l.length ≤ 1152921504606846976) : ∀ (rest : List Int) (p k : Nat), l.drop p = rest → rest.length < k → laws_eqInt64S.l0 k l l (p : Int) = some true := by
  intro rest
  induction rest with
  | nil =>
    intro p k hd hk
    obtain ⟨k, rfl⟩ : ∃ m, k = m + 1 := ⟨k - 1, by simp at hk; omega⟩
    have := of_drop_nil hd
    simp only [laws_eqInt64S.l0]
    rw [if_neg (by omega)]
  | cons x rest ih =>
    intro p k hd hk
    simp only [List.length_cons] at hk
    obtain ⟨k, rfl⟩ : ∃ m, k = m + 1 := ⟨k - 1, by omega⟩
    obtain ⟨hp, hd', hx⟩ := of_drop hd
    simp only [laws_eqInt64S.l0, if_true]
    rw [if_pos (by omega), if_pos (by omega), if_pos (by omega), step64 hp hl]
    exact ih (p + 1) k hd' (by omega)

theorem eqInt64S_is (l : List Int) (hl : l.length ≤ 1152921504606846976) (k : Nat) (hk : l.length < k) : laws_eqInt64S.f k l l = some true := by
  unfold laws_eqInt64S.f
  rw [if_pos rfl]
  exact eqInt64S_l0 l hl l 0 k rfl hk

/-- 1, 2, 3, .. in place of every number. -/
def marks : Int → Nat → List Int
  | _, 0 => []
  | a, n + 1 => a :: marks (a + 1) n

theorem marks_length : ∀ (n : Nat) (a : Int), (marks a n).length = n
  | 0, _ => rfl
  | n + 1, a => by simp [marks, marks_length n]

theorem markInt64S_l0 : ∀ (n p k : Nat) (l : List Int) (a : Int), l.length ≤ 1152921504606846976 → l.length = p + n → n < k → 0 ≤ a → a ≤ 2305843009213693952 + p →
    laws_markInt64S.l0 k l a (p : Int) = some (a + n, l.take p ++ marks a n)
  | 0, p, k, l, a, hl, hn, hk, h0, h1 => by
    obtain ⟨k, rfl⟩ : ∃ m, k = m + 1 := ⟨k - 1, by omega⟩
    simp only [laws_markInt64S.l0, marks]
    rw [if_neg (by omega), List.take_of_length_le (by omega)]
    simp
  | n + 1, p, k, l, a, hl, hn, hk, h0, h1 => by
    obtain ⟨k, rfl⟩ : ∃ m, k = m + 1 := ⟨k - 1, by omega⟩
    simp only [laws_markInt64S.l0]
    rw [if_pos (by omega), if_pos (by omega), w64_id (by omega), step64 (show p < l.length by omega) hl, Int.toNat_natCast,
      markInt64S_l0 n (p + 1) k (l.set p a) (a + 1) (by simpa using hl) (by simp; omega) (by omega) (by omega) (by omega), take_set_at _ _ _ (by omega)]
    simp only [marks, Option.some.injEq, Prod.mk.injEq, List.append_assoc, List.singleton_append, and_true]
    omega

theorem markInt64S_is (l : List Int) (hl : l.length ≤ 1152921504606846976) (k : Nat) (hk : l.length < k) : laws_markInt64S.f k l 1 = some (1 + (l.length : Int), marks 1 l.length) := by
  unfold laws_markInt64S.f
  exact (markInt64S_l0 l.length 0 k l 1 hl (by simp) hk (by omega) (by omega)).trans (by rw [List.take_zero, List.nil_append])

theorem heldInt64S_l0 (l : List Int) (hl : l.length ≤ 1152921504606846976) : ∀ (n p k : Nat) (a : Int), l.length = p + n → l.drop p = marks a n → n < k → 0 ≤ a → a ≤ 2305843009213693952 + p →
    laws_heldInt64S.l0 k l a (p : Int) = some (a + n)
  | 0, p, k, a, hn, hd, hk, h0, h1 => by
    obtain ⟨k, rfl⟩ : ∃ m, k = m + 1 := ⟨k - 1, by omega⟩
    simp only [laws_heldInt64S.l0]
    rw [if_neg (by omega)]
    simp
  | n + 1, p, k, a, hn, hd, hk, h0, h1 => by
    obtain ⟨k, rfl⟩ : ∃ m, k = m + 1 := ⟨k - 1, by omega⟩
    obtain ⟨hp, hd', hx⟩ := of_drop hd
    simp only [laws_heldInt64S.l0, rd, hx, if_true]
    rw [if_pos (by omega), if_pos (by omega), w64_id (by omega), step64 hp hl, heldInt64S_l0 l hl n (p + 1) k (a + 1) (by omega) hd' (by omega) (by omega) (by omega)]
    simp only [Option.some.injEq]
    omega

theorem heldInt64S_is (n : Nat) (hl : n ≤ 1152921504606846976) (k : Nat) (hk : n < k) : laws_heldInt64S.f k (marks 1 n) 1 = some (1 + (n : Int)) := by
  unfold laws_heldInt64S.f
  exact heldInt64S_l0 (marks 1 n) (by rw [marks_length]; exact hl) n 0 k 1 (by rw [marks_length]; simp) rfl hk (by omega) (by omega)

theorem markHullS_l0 : ∀ (n p k : Nat) (l : List S59) (a : Int), l.length ≤ 93824992236885 → l.length = p + n → n < k → 1 ≤ a → a ≤ 1 + 3 * p →
    ∃ ys : List S59, laws_markHullS.l0 k l a (p : Int) = some (a + 3 * n, ys)
  | 0, p, k, l, a, hl, hn, hk, h0, h1 => by
    obtain ⟨k, rfl⟩ : ∃ m, k = m + 1 := ⟨k - 1, by omega⟩
    refine ⟨l, ?_⟩
    simp only [laws_markHullS.l0]
    rw [if_neg (by omega)]
    simp
  | n + 1, p, k, l, a, hl, hn, hk, h0, h1 => by
    obtain ⟨k, rfl⟩ : ∃ m, k = m + 1 := ⟨k - 1, by omega⟩
    simp only [laws_markHullS.l0]
    rw [if_pos (by omega), if_pos (by omega)]
    rw [w64_id (a := a + 1) (by omega), w64_id (a := a + 1 + 1) (by omega), w64_id (a := a + 1 + 1 + 1) (by omega), step64 (show p < l.length by omega) (by omega)]
    have key : ∀ Y : List S59, Y.length = l.length → ∃ ys, laws_markHullS.l0 k Y (a + 1 + 1 + 1) ((p + 1 : Nat) : Int) = some (a + 3 * ((n + 1 : Nat) : Int), ys) := by
      intro Y hY
      obtain ⟨ys, e⟩ := markHullS_l0 n (p + 1) k Y (a + 1 + 1 + 1) (by omega) (by omega) (by omega) (by omega) (by omega)
      refine ⟨ys, ?_⟩
      rw [e]
      simp only [Option.some.injEq, Prod.mk.injEq, and_true]
      omega
    exact key _ (by simp)

theorem markHullS_is (l : List S59) (hl : l.length ≤ 93824992236885) (k : Nat) (hk : l.length < k) : ∃ ys, laws_markHullS.f k l 1 = some (1 + 3 * (l.length : Int), ys) := by
  unfold laws_markHullS.f
  exact markHullS_l0 l.length 0 k l 1 hl (by simp) hk (by omega) (by omega)

/-- The law, in plain Lean. -/
def FnExactRaftOrder.Said : Prop := ∀ (l0 : List S65), l0.length ≤ maxLen → l0.length * 3 ≤ 140737488351232 → (∀ x ∈ l0, (Lit.int .i8 x.f0).wf = true ∧ (Lit.int .i8 x.f1).wf = true ∧ (Lit.int .i8 x.f2).wf = true) → ∃ k, laws_FnExactRaftOrder.f k l0 = some true

theorem found_run (l : List S59) : ∀ (os : List (List Int)) (s : Bool × List Int), s.1 = false →
    match os.filter (raftB l) with
    | [] => (runAll (foundSt l) s os).1.1 = false
    | o :: _ => (runAll (foundSt l) s os).1 = (true, o)
  | [], s, h => by simpa [runAll] using h
  | o :: os, s, h => by
    have ih := found_run l os (false, o) rfl
    rw [List.filter_cons]
    by_cases hb : raftB l o = true
    · rw [if_pos hb]
      have e : foundSt l s o = ((true, o), false) := by
        unfold foundSt
        unfold raftB at hb
        rw [hb]; rfl
      simp [runAll, e]
    · rw [if_neg hb]
      have hb' : decide (wrongH (pickH l o) < 0) = false := by
        unfold raftB at hb
        simpa using hb
      have e : foundSt l s o = ((false, o), true) := by
        unfold foundSt
        rw [hb']; rfl
      simp only [runAll, e, if_true]
      exact ih

theorem exts_each (n : Nat) : ∀ (d : Nat) (now : List Int), ∀ o ∈ exts n d now, o.length = now.length + d := by
  intro d
  induction d with
  | zero => intro now o ho; simp only [exts, List.mem_singleton] at ho; rw [ho]; rfl
  | succ d ih =>
    intro now o ho
    simp only [exts, List.mem_flatMap] at ho
    obtain ⟨i, _, ho⟩ := ho
    split at ho
    · simp at ho
    · have := ih _ o ho
      rw [List.length_append, List.length_singleton] at this
      omega

/-- What both answer. -/
def orderR (l : List S59) : List Int × Int := if codeH l = 0 then (match sieve l l.length [] with | [] => ([], 6) | o :: _ => (o, 0)) else ([], codeH l)

theorem implOrder_is (l : List S59) (hl : l.length ≤ 1048576) : impl_RaftOrder.f l = some (orderR l) := by
  unfold impl_RaftOrder.f orderR
  rw [if_pos hl]
  by_cases hc : codeH l = 0
  · rw [if_pos hc, if_pos hc]
    have h := found_run l (exts l.length l.length []) (false, []) rfl
    have e := raftB_sieve l l.length []
    have hn : raftB l [] = true := by simp [raftB, pickH, wrongH]
    rw [if_pos hn] at e
    rw [e] at h
    change match sieve l l.length [] with | [] => (foundR l).1 = false | o :: _ => foundR l = (true, o) at h
    cases hs : sieve l l.length [] with
    | nil => rw [hs] at h; simp only at h; rw [h]; simp
    | cons o os => rw [hs] at h; simp only at h; rw [h]; simp
  · rw [if_neg hc, if_neg hc]

theorem orderR_length (l : List S59) : (orderR l).1.length ≤ l.length := by
  unfold orderR
  split
  · have e := raftB_sieve l l.length []
    have hn : raftB l [] = true := by simp [raftB, pickH, wrongH]
    rw [if_pos hn] at e
    cases hs : sieve l l.length [] with
    | nil => simp
    | cons o os =>
      have : o ∈ (exts l.length l.length []).filter (raftB l) := by rw [e, hs]; simp
      have := exts_each l.length l.length [] o (List.mem_filter.1 this).1
      simp at this ⊢
      omega
  · simp

theorem specOrder_is (l : List S59) (hl : l.length ≤ 93824992236885) (h8 : ∀ x ∈ l, In8 x) (k : Nat) (hk : l.length < k) (hk2 : 1000 < k) : spec_RaftOrder.f k l = some (orderR l) := by
  unfold spec_RaftOrder.f orderR
  rw [l04Asked_is l (by omega) h8 k hk]
  simp only [Option.bind_some]
  split
  · rename_i hc
    have h7 := (codeH_ok hc).1
    rw [l04Orders_is l h8 h7 l.length [] k (by simp) (by simp) (by
      have : ordNeed l.length l.length ≤ 1000 := by
        unfold ordNeed
        have : (l.length + 1) * (2 * l.length + 2) ≤ 8 * 16 := Nat.mul_le_mul (by omega) (by omega)
        omega
      omega)]
    cases hs : sieve l l.length [] with
    | nil => simp
    | cons o os =>
      have h1 : ¬ (((o :: os).length : Int) = 0) := by rw [List.length_cons]; omega
      have h2 : (0 : Int) < ((o :: os).length : Int) := by rw [List.length_cons]; omega
      simp only [Option.bind_some]
      rw [if_neg h1, if_pos h2]
      rfl
  · rfl

theorem FnExactRaftOrder : FnExactRaftOrder.Said := by
  intro l hm hy hok
  have hl : l.length ≤ 93824992236885 := by omega
  have h8 := cvH_in hok
  have hlm : (l.map cvH).length = l.length := List.length_map ..
  refine ⟨l.length + 1004, ?_⟩
  unfold laws_FnExactRaftOrder.f
  rw [szHullS_is l _ hl (by omega) (by omega)]
  simp only [Option.bind_some]
  by_cases big : (1048576 : Int) < l.length
  · rw [if_pos big]; rfl
  · rw [if_neg big, if_neg (by omega), toHullS_is l hl _ (by omega)]
    simp only [Option.bind_some]
    have hr := orderR_length (l.map cvH)
    generalize hR : orderR (l.map cvH) = R at hr
    rw [specOrder_is _ (by omega) h8 _ (by omega) (by omega), implOrder_is _ (by omega), hR]
    simp only [Option.bind_some]
    rw [eqInt64S_is _ (by omega) _ (by omega)]
    simp only [Option.bind_some, if_true, bne_self_eq_false, laws_FnExactRaftOrder.j0, Bool.false_eq_true, if_false]
    rw [toHullS_is l hl _ (by omega)]
    simp only [Option.bind_some]
    rw [eqHullS_is _ (by omega) _ (by omega)]
    simp only [Option.bind_some, if_true]
    obtain ⟨ys, e⟩ := markHullS_is (l.map cvH) (by omega) (l.length + 1003) (by omega)
    rw [e]
    simp only [Option.bind_some]
    rw [if_neg (by omega), eqInt64S_is _ (by omega) _ (by omega)]
    simp only [Option.bind_some, if_true, laws_FnExactRaftOrder.j1, Bool.false_eq_true, if_false]
    rw [markInt64S_is _ (by omega) _ (by omega)]
    simp only [Option.bind_some]
    rw [heldInt64S_is _ (by omega) _ (by omega)]
    simp only [Option.bind_some, if_true]
    rw [if_neg (by omega), toHullS_is l hl _ (by omega)]
    simp only [Option.bind_some]
    rw [implOrder_is _ (by omega), hR]
    simp only [Option.bind_some]
    rw [eqInt64S_is _ (by omega) _ (by omega)]
    simp only [Option.bind_some, if_true, bne_self_eq_false, laws_FnExactRaftOrder.j2, Bool.false_eq_true, if_false]
    rw [heldInt64S_is _ (by omega) _ (by omega)]
    simp only [Option.bind_some, if_true]
    rw [if_neg (by omega)]

end Go.Proofs.Ytpimdgkofgendaa.Pure
