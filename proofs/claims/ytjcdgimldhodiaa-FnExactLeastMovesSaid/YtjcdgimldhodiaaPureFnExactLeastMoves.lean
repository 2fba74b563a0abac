/- The program's LeastMoves returns what the reference's LeastMoves returns, for all hulls and all lists of numbers (of at most 2^20; longer ones the law lets by). -/
import Derived.Test.YtjcdgimldhodiaaPFnExactLeastMovesx9
namespace Go.Proofs.Ytjcdgimldhodiaa.Pure
open Go.RowKit Go.Proofs.Ytjcdgimldhodiaa.PFnExactLeastMoves Go.Proofs.YtjcdgimldhodiaaW.PrintWords Go.Proofs.YtjcdgimldhodiaaW.PrintLast Go.Proofs.YtjcdgimldhodiaaW.PrintMore
set_option linter.unusedVariables false
set_option linter.unusedSimpArgs false

theorem l00Has_l0 (l : List Int) (a : Int) (hl : l.length ≤ 1152921504606846976) : ∀ (rest : List Int) (p k : Nat), l.drop p = rest → rest.length < k → spec_l00Has.l0 k l a (p : Int) = some (rest.contains a) := by
  intro rest
  induction rest with
  | nil =>
    intro p k hd hk
    obtain ⟨k, rfl⟩ : ∃ m, k = m + 1 := ⟨k - 1, by simp at hk; omega⟩
    have := of_drop_nil hd
    simp only [spec_l00Has.l0]
    rw [if_neg (by omega)]
    rfl
  | cons x rest ih =>
    intro p k hd hk
    simp only [List.length_cons] at hk
    obtain ⟨k, rfl⟩ : ∃ m, k = m + 1 := ⟨k - 1, by omega⟩
    obtain ⟨hp, hd', hx⟩ := of_drop hd
    simp only [spec_l00Has.l0, rd, hx]
    rw [if_pos (by omega), if_pos (by omega), step64 hp hl, ih (p + 1) k hd' (by omega)]
    by_cases e : x = a
    · rw [if_pos e, e]; simp
    · rw [if_neg e, List.contains_cons]
      have : (a == x) = false := by simpa using fun h => e h.symm
      rw [this, Bool.false_or]
theorem l00Has_is (l : List Int) (a : Int) (hl : l.length ≤ 1152921504606846976) (k : Nat) (hk : l.length < k) : spec_l00Has.f k l a = some (l.contains a) := by
  unfold spec_l00Has.f
  exact l00Has_l0 l a hl l 0 k rfl hk

/-- How many behind x are not of s. -/
def cntA (x : Int) (s : List Int) : Bool → List Int → Int
  | _, [] => 0
  | true, y :: q => (if s.contains y = true then 0 else 1) + cntA x s true q
  | false, y :: q => cntA x s (y == x) q
theorem cntA_in (x : Int) (s : List Int) : ∀ (q : List Int) (b : Bool), 0 ≤ cntA x s b q ∧ cntA x s b q ≤ q.length
  | [], b => by cases b <;> simp [cntA]
  | y :: q, true => by
    have := cntA_in x s q true
    simp only [cntA, List.length_cons]
    split <;> omega
  | y :: q, false => by
    have := cntA_in x s q (y == x)
    simp only [cntA, List.length_cons]
    omega
theorem spec_l1 (o r : List Int) (ho : o.length ≤ 1048576) (hr : r.length ≤ 1048576) (i : Nat) (hi : i < r.length) : ∀ (rest : List Int) (p k : Nat) (all : Int) (b : Bool), o.drop p = rest → rest.length + r.length + 2 < k → 0 ≤ all → all + (rest.length : Int) ≤ 4611686018427387904 →
    spec_l04Moves.l1 k o r all (i : Int) b (p : Int) = spec_l04Moves.l0 (k - rest.length - 1) o r (all + cntA r[i] (r.take i) b rest) ((i + 1 : Nat) : Int) := by
  intro rest
  induction rest with
  | nil =>
    intro p k all b hd hk _ _
    obtain ⟨k, rfl⟩ : ∃ m, k = m + 1 := ⟨k - 1, by omega⟩
    have := of_drop_nil hd
    simp only [spec_l04Moves.l1]
    rw [if_neg (by omega), step64 hi (by omega)]
    cases b <;> simp [cntA]
  | cons y rest ih =>
    intro p k all b hd hk h0 h1
    simp only [List.length_cons] at hk h1 ⊢
    obtain ⟨k, rfl⟩ : ∃ m, k = m + 1 := ⟨k - 1, by omega⟩
    obtain ⟨hp, hd', hy⟩ := of_drop hd
    have hri : ∀ d, r.getD ((i : Int)).toNat d = r[i] := fun d => by rw [Int.toNat_natCast, List.getD_eq_getElem?_getD, List.getElem?_eq_getElem hi]; rfl
    have e : k + 1 - (rest.length + 1) - 1 = k - rest.length - 1 := by omega
    simp only [spec_l04Moves.l1, rd, hy, hri]
    rw [if_pos (by omega), step64 hp (by omega), e]
    cases b with
    | true =>
      rw [if_pos rfl, if_pos (by omega), if_pos (by omega), if_pos (by omega), Int.toNat_natCast, l00Has_is (r.take i) y (by simp; omega) k (by simp; omega)]
      simp only [Option.bind_some, cntA]
      by_cases hc : (r.take i).contains y = true
      · rw [if_pos hc, if_pos hc, ih (p + 1) k all true hd' (by omega) h0 (by omega), Int.zero_add]
      · rw [if_neg hc, if_neg hc, w64_id (by omega), ih (p + 1) k (all + 1) true hd' (by omega) (by omega) (by omega), Int.add_assoc]
    | false =>
      rw [if_neg (by simp), if_pos (by omega), if_pos (by omega), if_pos (by omega), ih (p + 1) k all _ hd' (by omega) h0 (by omega)]
      rfl
def moveS (o : List Int) : List Int → List Int → Int
  | _, [] => 0
  | s, x :: xs => cntA x s false o + moveS o (s ++ [x]) xs
theorem spec_l0 (o r : List Int) (ho : o.length ≤ 1048576) (hr : r.length ≤ 1048576) : ∀ (rest : List Int) (i k : Nat) (all : Int), r.drop i = rest → rest.length * (o.length + 2) + o.length + r.length + 4 < k → 0 ≤ all → all + (rest.length : Int) * 1048576 ≤ 4611686018427387904 →
    spec_l04Moves.l0 k o r all (i : Int) = some (all + moveS o (r.take i) rest) := by
  intro rest
  induction rest with
  | nil =>
    intro i k all hd hk _ _
    obtain ⟨k, rfl⟩ : ∃ m, k = m + 1 := ⟨k - 1, by omega⟩
    have := of_drop_nil hd
    simp only [spec_l04Moves.l0, moveS]
    rw [if_neg (by omega), Int.add_zero]
  | cons x rest ih =>
    intro i k all hd hk h0 h1
    simp only [List.length_cons, Nat.succ_mul] at hk h1
    generalize hZ : rest.length * (o.length + 2) = Z at hk
    obtain ⟨k, rfl⟩ : ∃ m, k = m + 1 := ⟨k - 1, by omega⟩
    obtain ⟨hp, hd', hx⟩ := of_drop hd
    have hy : r[i] = x := by
      have := hx 0
      rw [Int.toNat_natCast, List.getD_eq_getElem?_getD, List.getElem?_eq_getElem hp] at this
      exact this
    have hc := cntA_in x (r.take i) o false
    simp only [spec_l04Moves.l0, moveS]
    rw [if_pos (by omega)]
    have e := spec_l1 o r ho hr i hp o 0 k all false rfl (by omega) h0 (by omega)
    have e' : spec_l04Moves.l1 k o r all (i : Int) false 0 = _ := e
    rw [e', hy, ih (i + 1) _ _ hd' (by rw [hZ]; omega) (by omega) (by omega), List.take_succ_eq_append_getElem hp, hy, Int.add_assoc]
def notIn (s : List Int) (y : Int) : Bool := !s.contains y
theorem cntA_true (x : Int) (s : List Int) : ∀ (q : List Int), cntA x s true q = ((q.filter (notIn s)).length : Int)
  | [] => by simp [cntA]
  | y :: q => by
    simp only [cntA, cntA_true x s q, List.filter_cons]
    by_cases hc : s.contains y = true
    · rw [if_pos hc, if_neg (by unfold notIn; rw [hc]; decide)]; omega
    · rw [if_neg hc, if_pos (by unfold notIn; simpa using hc), List.length_cons]; omega
theorem cntA_is (x : Int) (s : List Int) (hs : x ∉ s) : ∀ (o : List Int), x ∈ o → ((o.filter (notIn s)).length : Int) - 1 - idxI x (o.filter (notIn s)) = cntA x s false o
  | y :: q, h => by
    simp only [cntA, List.filter_cons]
    by_cases e : y = x
    · have hb : (y == x) = true := beq_iff_eq.2 e
      have hn : notIn s y = true := by unfold notIn; rw [e]; simpa using hs
      rw [hb, cntA_true, if_pos hn, idxI, if_pos e.symm, List.length_cons]
      omega
    · have hb : (y == x) = false := beq_eq_false_iff_ne.2 e
      have ih := cntA_is x s hs q (by rcases List.mem_cons.1 h with h | h; exact absurd h.symm e; exact h)
      rw [hb, ← ih]
      by_cases hn : notIn s y = true
      · rw [if_pos hn, idxI, if_neg (fun g => e g.symm), List.length_cons]
        omega
      · rw [if_neg hn]
theorem moveP_S (o : List Int) (ho : o.Nodup) : ∀ (rest s : List Int), rest.Nodup → (∀ x ∈ rest, x ∈ o ∧ x ∉ s) → moveP (o.filter (notIn s)) rest = moveS o s rest
  | [], s, _, _ => rfl
  | x :: rest, s, hn, h => by
    obtain ⟨n1, n2⟩ := List.nodup_cons.1 hn
    have hx := h x List.mem_cons_self
    have hf : (o.filter (notIn s)).erase x = o.filter (notIn (s ++ [x])) := by
      rw [List.Nodup.erase_eq_filter (ho.filter _) x, List.filter_filter]
      refine List.filter_congr fun y _ => ?_
      unfold notIn
      by_cases e : y = x
      · rw [e]; simp
      · have : (y != x) = true := bne_iff_ne.2 e
        rw [this, Bool.true_and]
        simp [e]
    simp only [moveP, moveS]
    rw [cntA_is x s hx.2 o hx.1, hf, moveP_S o ho rest (s ++ [x]) n2 (fun y hy => ⟨(h y (List.mem_cons_of_mem _ hy)).1, fun hm => by
      rcases List.mem_append.1 hm with hm | hm
      · exact (h y (List.mem_cons_of_mem _ hy)).2 hm
      · rw [List.mem_singleton.1 hm] at hy; exact n1 hy⟩)]
theorem moveP_is (o r : List Int) (ho : o.Nodup) (hn : r.Nodup) (h : ∀ x ∈ r, x ∈ o) : moveP o r = moveS o [] r := by
  have := moveP_S o ho r [] hn (fun x hx => ⟨h x hx, by simp⟩)
  rw [← this]
  congr 1
  exact (List.filter_eq_self.2 (fun y _ => by simp [notIn])).symm

def cvH (x : S75) : S73 := ⟨x.f0, x.f1, x.f2⟩

theorem toHullS_l0 (l : List S75) (hl : l.length ≤ 1152921504606846976) : ∀ (rest : List S75) (p k : Nat) (ys : List S73), l.drop p = rest → ys.length = l.length → rest.length < k →
    laws_toHullS.l0 k l ys (p : Int) = some (ys.take p ++ rest.map cvH) := by
  intro rest
  induction rest with
  | nil =>
    intro p k ys hd hy hk
    obtain ⟨k, rfl⟩ : ∃ m, k = m + 1 := ⟨k - 1, by simp at hk; omega⟩
    have := of_drop_nil hd
    simp only [laws_toHullS.l0]
    rw [if_neg (by omega), List.take_of_length_le (by omega)]
    simp
  | cons x rest ih =>
    intro p k ys hd hy hk
    simp only [List.length_cons] at hk
    obtain ⟨k, rfl⟩ : ∃ m, k = m + 1 := ⟨k - 1, by omega⟩
    obtain ⟨hp, hd', hx⟩ := of_drop hd
    simp only [laws_toHullS.l0, laws_toHull.f, rd_T75, hx, Option.bind_some]
    rw [if_pos (by omega), if_pos (by omega), if_pos (by omega), step64 hp hl, ih (p + 1) k _ hd' (by simpa using hy) (by omega), Int.toNat_natCast, take_set_at _ _ _ (by omega)]
    simp [cvH]

theorem toHullS_is (l : List S75) (hl : l.length ≤ 93824992236885) (k : Nat) (hk : l.length < k) : laws_toHullS.f k l = some (l.map cvH) := by
  unfold laws_toHullS.f
  rw [if_pos (by omega), if_pos (by omega)]
  have := toHullS_l0 l (by omega) l 0 k (List.replicate (l.length : Int).toNat z73) rfl (by simp) hk
  simpa using this

theorem cvH_in {l : List S75} (h : ∀ x ∈ l, (Lit.int .i8 x.f0).wf = true ∧ (Lit.int .i8 x.f1).wf = true ∧ (Lit.int .i8 x.f2).wf = true) : ∀ x ∈ l.map cvH, In8 x := by
  intro x hx
  obtain ⟨y, hy, rfl⟩ := List.mem_map.1 hx
  exact ⟨i8_in (h y hy).1, i8_in (h y hy).2.1, i8_in (h y hy).2.2⟩

theorem eqHullS_l0 (l : List S73) (hl : l.length ≤ 1152921504606846976) : ∀ (rest : List S73) (p k : Nat), l.drop p = rest → rest.length < k → laws_eqHullS.l0 k l l (p : Int) = some true := by
  intro rest
  induction rest with
  | nil =>
    intro p k hd hk
    obtain ⟨k, rfl⟩ : ∃ m, k = m + 1 := ⟨k - 1, by simp at hk; omega⟩
    have := of_drop_nil hd
    simp only [laws_eqHullS.l0]
    rw [if_neg (by omega)]
  | cons x rest ih =>
    intro p k hd hk
    simp only [List.length_cons] at hk
    obtain ⟨k, rfl⟩ : ∃ m, k = m + 1 := ⟨k - 1, by omega⟩
    obtain ⟨hp, hd', hx⟩ := of_drop hd
    simp only [laws_eqHullS.l0, laws_eqHull.f, if_true, Option.bind_some]
    rw [if_pos (by omega), if_pos (by omega), if_pos (by omega), step64 hp hl]
    exact ih (p + 1) k hd' (by omega)

theorem eqHullS_is (l : List S73) (hl : l.length ≤ 1152921504606846976) (k : Nat) (hk : l.length < k) : laws_eqHullS.f k l l = some true := by
  unfold laws_eqHullS.f
  rw [if_pos rfl]
  exact eqHullS_l0 l hl l 0 k rfl hk

theorem szHullS_is (l : List S75) (a : Int) (hl : l.length ≤ 93824992236885) (h0 : 0 ≤ a) (h1 : a ≤ 1048576) : laws_szHullS.f l a = some (if a < l.length then -1 else a - l.length) := by
  unfold laws_szHullS.f
  rw [w64_id (by omega)]
  by_cases h : a < l.length
  · rw [if_pos (by omega), if_pos h]
  · rw [if_neg (by omega), if_neg h]

theorem l00In_is (a lo hi : Int) : spec_l00In.f a lo hi = some (decide (lo ≤ a ∧ a ≤ hi)) := by
  unfold spec_l00In.f
  repeat' split
  all_goals first | exact some_dec (by omega) | exact some_decF (by omega)

theorem vh_and (x : S73) : vh x = (decide (1 ≤ x.f0 ∧ x.f0 ≤ 40) && (decide (1 ≤ x.f1 ∧ x.f1 ≤ 100) && decide (1 ≤ x.f2 ∧ x.f2 ≤ 20))) := by
  unfold vh
  rw [← Bool.decide_and, ← Bool.decide_and]
  exact decide_eq_decide.2 (by omega)

theorem specValid_is (a b c : Int) (h : In8 ⟨a, b, c⟩) : spec_l04Hull.f a b c = some (vh ⟨a, b, c⟩) := by
  obtain ⟨h0, h1, h2⟩ := h
  simp only at h0 h1 h2
  unfold spec_l04Hull.f
  rw [w64_id (by omega), w64_id (by omega), w64_id (by omega), l00In_is, l00In_is, l00In_is, vh_and]
  simp only [Option.bind_some]
  cases decide (1 ≤ a ∧ a ≤ 40) <;> cases decide (1 ≤ b ∧ b ≤ 100) <;> rfl

theorem l04Asked_l0 (l : List S73) (hl : l.length ≤ 1152921504606846976) (h8 : ∀ x ∈ l, In8 x) : ∀ (rest : List S73) (p k : Nat), l.drop p = rest → rest.length < k →
    spec_l04Asked.l0 k l (p : Int) = some (if rest.all vh then (if l.length > 7 then 3 else 0) else 1) := by
  intro rest
  induction rest with
  | nil =>
    intro p k hd hk
    obtain ⟨k, rfl⟩ : ∃ m, k = m + 1 := ⟨k - 1, by simp at hk; omega⟩
    have := of_drop_nil hd
    simp only [spec_l04Asked.l0]
    rw [if_neg (by omega)]
    by_cases h : l.length > 7
    · rw [if_pos (by omega)]; simp [h]
    · rw [if_neg (by omega)]; simp [h]
  | cons x rest ih =>
    intro p k hd hk
    simp only [List.length_cons] at hk
    obtain ⟨k, rfl⟩ : ∃ m, k = m + 1 := ⟨k - 1, by omega⟩
    obtain ⟨hp, hd', hx⟩ := of_drop hd
    have hx8 : In8 x := h8 x (List.mem_of_mem_drop (by rw [hd]; exact List.mem_cons_self))
    simp only [spec_l04Asked.l0, rd_T73, hx, specValid_is _ _ _ hx8, Option.bind_some]
    rw [if_pos (by omega), if_pos (by omega), step64 hp hl, ih (p + 1) k hd' (by omega)]
    cases hv : vh x <;> simp [hv]

theorem l04Asked_is (l : List S73) (hl : l.length ≤ 1152921504606846976) (h8 : ∀ x ∈ l, In8 x) (k : Nat) (hk : l.length < k) : spec_l04Asked.f k l = some (codeH l) := by
  unfold spec_l04Asked.f codeH
  exact l04Asked_l0 l hl h8 l 0 k rfl hk

theorem each_l0 (n : Nat) (hn : n ≤ 1048576) (r : List Int) (hr : r.length ≤ 1048576) : ∀ (rest : List Int) (p k : Nat), r.drop p = rest → rest.length + r.length + 1 < k → spec_l04Each.l0 k (n : Int) r (p : Int) = some (eachB n (r.take p) rest && decide (r.length = n)) := by
  intro rest
  induction rest with
  | nil =>
    intro p k hd hk
    obtain ⟨k, rfl⟩ : ∃ m, k = m + 1 := ⟨k - 1, by omega⟩
    have := of_drop_nil hd
    simp only [spec_l04Each.l0]
    rw [if_neg (by omega)]
    simp only [eachB, Bool.true_and, Option.some.injEq]
    by_cases h : r.length = n
    · rw [decide_eq_true h]; exact beq_iff_eq.2 (by omega)
    · rw [decide_eq_false h]; exact beq_eq_false_iff_ne.2 (by omega)
  | cons x rest ih =>
    intro p k hd hk
    simp only [List.length_cons] at hk
    obtain ⟨k, rfl⟩ : ∃ m, k = m + 1 := ⟨k - 1, by omega⟩
    obtain ⟨hp, hd', hx⟩ := of_drop hd
    have hy : r[p] = x := by
      have := hx 0
      rw [Int.toNat_natCast, List.getD_eq_getElem?_getD, List.getElem?_eq_getElem hp] at this
      exact this
    have e : spec_l00In.f x 0 (wrap64 ((n : Int) - 1)) = some (decide (0 ≤ x ∧ x < (n : Int))) := by
      rw [w64_id (by omega)]
      unfold spec_l00In.f
      split
      · exact some_dec (by omega)
      · exact some_decF (by omega)
    have I := ih (p + 1) k hd' (by omega)
    rw [List.take_succ_eq_append_getElem hp, hy] at I
    simp only [spec_l04Each.l0, rd, hx, eachB]
    rw [if_pos (by omega), if_pos (by omega), e]
    simp only [Option.bind_some]
    by_cases hin : 0 ≤ x ∧ x < (n : Int)
    · rw [decide_eq_true hin, if_pos rfl, if_pos hin, if_pos (by omega), Int.toNat_natCast, l00Has_is (r.take p) x (by simp; omega) k (by simp; omega)]
      simp only [Option.bind_some]
      by_cases hc : (r.take p).contains x = true
      · rw [if_pos hc, if_pos hc]; rfl
      · rw [if_neg hc, if_neg hc, step64 hp (by omega), I]
    · rw [decide_eq_false hin, if_neg (by simp), if_neg hin]; rfl
theorem each_is (n : Nat) (hn : n ≤ 1048576) (r : List Int) (hr : r.length ≤ 1048576) (k : Nat) (hk : 2 * r.length + 1 < k) : spec_l04Each.f k (n : Int) r = some (okE n r) := by
  unfold spec_l04Each.f
  exact each_l0 n hn r hr r 0 k rfl (by omega)

theorem specMay_is (x y : S73) (hx : In8 x) (hy : In8 y) : spec_l04May.f x.f0 x.f1 x.f2 y.f0 y.f1 y.f2 = some (mayH x y) := by
  obtain ⟨_, x1, x2⟩ := hx
  obtain ⟨_, y1, y2⟩ := hy
  unfold spec_l04May.f mayH
  rw [w64_id (a := x.f2) (by omega), w64_id (a := y.f2) (by omega), w64_id (a := x.f1) (by omega), w64_id (a := y.f1) (by omega), w64_id (by omega), w64_id (by omega)]
  repeat' split
  all_goals first | exact some_dec (by omega) | exact some_decF (by omega)

theorem wrongFrom_snoc (r : List S73) : ∀ (i : Int) (x y : S73), 0 ≤ i → (wrongFrom i x (r ++ [y]) < 0 ↔ wrongFrom i x r < 0 ∧ mayH ((x :: r).getLast (by simp)) y = true) := by
  induction r with
  | nil =>
    intro i x y h0
    simp only [List.nil_append, wrongFrom, List.getLast_singleton]
    split
    · rename_i h; simp [h]
    · rename_i h; simp [h]; omega
  | cons z r ih =>
    intro i x y h0
    simp only [List.cons_append, wrongFrom]
    by_cases h : mayH x z = true
    · rw [if_pos h, if_pos h, ih (i + 1) z y (by omega)]
      simp
    · rw [if_neg h, if_neg h]
      constructor
      · intro g; omega
      · intro g; omega

theorem l00Own_is (l : List Int) (hl : l.length < 17592186044416) : spec_l00Own.f l = some l := by
  unfold spec_l00Own.f
  simp only [Option.bind_some, List.length_nil, List.nil_append]
  rw [if_pos (by omega)]

/-- The reference's orders: those that may go on, one hull after the other. -/
def okNext (l : List S73) (now : List Int) (i : Int) : Bool := match now.getLast? with
  | none => true
  | some j => mayH (rd_T73 l j) (rd_T73 l i)
def sieve (l : List S73) : Nat → List Int → List (List Int)
  | 0, now => [now]
  | d + 1, now => (List.range l.length).flatMap fun (i : Nat) => if now.contains (i : Int) || !okNext l now (i : Int) then [] else sieve l d (now ++ [(i : Int)])
def raftB (l : List S73) (o : List Int) : Bool := decide (wrongH (pickH l o) < 0)

theorem raftB_snoc (l : List S73) (now : List Int) (i : Int) : raftB l (now ++ [i]) = (raftB l now && okNext l now i) := by
  unfold raftB okNext
  cases now with
  | nil => simp [pickH, wrongH, wrongFrom]
  | cons j now =>
    have e : pickH l ((j :: now) ++ [i]) = rd_T73 l j :: (pickH l now ++ [rd_T73 l i]) := by simp [pickH]
    have e2 : pickH l (j :: now) = rd_T73 l j :: pickH l now := by simp [pickH]
    have e3 : (rd_T73 l j :: pickH l now).getLast (by simp) = rd_T73 l ((j :: now).getLast (by simp)) := by
      have : (rd_T73 l j :: pickH l now) = (j :: now).map fun i => rd_T73 l i := by simp [pickH]
      simp only [this]
      rw [List.getLast_map]
    have e4 : (j :: now).getLast? = some ((j :: now).getLast (by simp)) := List.getLast?_eq_some_getLast _
    have key := wrongFrom_snoc (pickH l now) 1 (rd_T73 l j) (rd_T73 l i) (by omega)
    rw [e3] at key
    rw [e, e2, e4]
    rw [Bool.eq_iff_iff, Bool.and_eq_true, decide_eq_true_iff, decide_eq_true_iff]
    exact key

theorem raftB_sieve (l : List S73) : ∀ (d : Nat) (now : List Int), (exts l.length d now).filter (raftB l) = if raftB l now then sieve l d now else [] := by
  intro d
  induction d with
  | zero =>
    intro now
    simp only [exts, sieve, List.filter_cons, List.filter_nil]
  | succ d ih =>
    intro now
    simp only [exts, sieve]
    rw [List.filter_flatMap]
    by_cases h : raftB l now = true
    · rw [if_pos h]
      refine congrArg (fun f => (List.range l.length).flatMap f) (funext fun i => ?_)
      by_cases hc : now.contains (i : Int) = true
      · rw [if_pos hc, if_pos (by rw [hc]; rfl)]
        rfl
      · rw [if_neg hc, ih, raftB_snoc, h, Bool.true_and]
        cases hk : okNext l now (i : Int) with
        | true => rw [if_pos rfl, if_neg (by simp; simpa using hc)]
        | false => rw [if_neg (by simp), if_pos (by simp)]
    · rw [if_neg h]
      rw [List.flatMap_eq_nil_iff]
      intro i _
      by_cases hc : now.contains (i : Int) = true
      · rw [if_pos hc]; rfl
      · rw [if_neg hc, ih, raftB_snoc]
        rw [if_neg (by simp [h])]

theorem sieve_length (l : List S73) (h7 : l.length ≤ 7) : ∀ (d : Nat) (now : List Int), (sieve l d now).length ≤ 7 ^ d := by
  intro d
  induction d with
  | zero => intro now; simp [sieve]
  | succ d ih =>
    intro now
    simp only [sieve, List.length_flatMap]
    have : ∀ (xs : List Nat), (List.map (fun (i : Nat) => (if now.contains (i : Int) || !okNext l now (i : Int) then [] else sieve l d (now ++ [(i : Int)])).length) xs).sum ≤ xs.length * 7 ^ d := by
      intro xs
      induction xs with
      | nil => simp
      | cons x xs ihx =>
        simp only [List.map_cons, List.sum_cons, List.length_cons, Nat.succ_mul]
        have : (if now.contains (x : Int) || !okNext l now (x : Int) then [] else sieve l d (now ++ [(x : Int)])).length ≤ 7 ^ d := by
          split
          · simp
          · exact ih _
        omega
    have h1 := this (List.range l.length)
    rw [List.length_range] at h1
    have h2 : l.length * 7 ^ d ≤ 7 * 7 ^ d := Nat.mul_le_mul_right _ h7
    rw [Nat.pow_succ, Nat.mul_comm (7 ^ d) 7]
    omega

def ordNeed (n d : Nat) : Nat := (d + 1) * (2 * n + 2) + n

theorem l04Orders_is (l : List S73) (h8 : ∀ x ∈ l, In8 x) (h7 : l.length ≤ 7) : ∀ (d : Nat) (now : List Int) (k : Nat), now.length + d = l.length → (∀ x ∈ now, 0 ≤ x ∧ x < l.length) → ordNeed l.length d < k → spec_l04Orders.f k l now = some (sieve l d now) := by
  have in8 : ∀ i : Int, 0 ≤ i → i < l.length → In8 (rd_T73 l i) := by
    intro i h0 h1
    refine h8 _ ?_
    rw [rd_T73, List.getD_eq_getElem?_getD, List.getElem?_eq_getElem (by omega)]
    exact List.getElem_mem _
  intro d
  induction d with
  | zero =>
    intro now k hl hin hk
    obtain ⟨k, rfl⟩ : ∃ m, k = m + 1 := ⟨k - 1, by omega⟩
    simp only [spec_l04Orders.f]
    rw [if_pos (by omega), l00Own_is now (by omega)]
    rfl
  | succ d ih =>
    intro now k hl hin hk
    have hsl0 := sieve_length l h7 d
    have hpow : 7 ^ d ≤ 117649 := Nat.le_trans (Nat.pow_le_pow_right (by omega) (show d ≤ 6 by omega)) (by decide)
    generalize 7 ^ d = P at hsl0 hpow
    have loop : ∀ (m i k : Nat) (acc : List (List Int)), i + m = l.length → 2 * m + ordNeed l.length d < k → acc.length ≤ i * P →
        spec_l04Orders.l0 k l now acc (i : Int) = some (acc ++ ((List.range l.length).drop i).flatMap fun (i : Nat) => if now.contains (i : Int) || !okNext l now (i : Int) then [] else sieve l d (now ++ [(i : Int)])) := by
      intro m
      induction m with
      | zero =>
        intro i k acc hi hk ha
        obtain ⟨k, rfl⟩ : ∃ m, k = m + 1 := ⟨k - 1, by omega⟩
        simp only [spec_l04Orders.l0]
        rw [if_neg (by omega), List.drop_eq_nil_of_le (by simp; omega)]
        simp
      | succ m ihm =>
        intro i k acc hi hk ha
        obtain ⟨k, rfl⟩ : ∃ m, k = m + 2 := ⟨k - 2, by omega⟩
        have hacc : acc.length ≤ 823543 := Nat.le_trans ha (Nat.le_trans (Nat.mul_le_mul (show i ≤ 7 by omega) hpow) (by decide))
        have hstep : ∀ s : List (List Int), s.length ≤ P → (acc ++ s).length ≤ (i + 1) * P := by
          intro s hs
          rw [List.length_append, Nat.succ_mul]
          exact Nat.add_le_add ha hs
        have hskip : acc.length ≤ (i + 1) * P := by
          rw [Nat.succ_mul]
          exact Nat.le_trans ha (Nat.le_add_right _ _)
        clear ha
        have hn : ordNeed l.length d ≥ l.length := by unfold ordNeed; omega
        rw [List.drop_eq_getElem_cons (by simp; omega), List.flatMap_cons]
        simp only [List.getElem_range, spec_l04Orders.l0]
        rw [if_pos (by omega), l00Has_is now i (by omega) _ (by omega)]
        simp only [Option.bind_some]
        have step : True → wrap64 ((i : Int) + 1) = ((i + 1 : Nat) : Int) := fun _ => step64 (show i < l.length by omega) (by omega)
        have skip : spec_l04Orders.j1 (k + 1) l now acc (i : Int) true = some (acc ++ ((List.range l.length).drop (i + 1)).flatMap fun (i : Nat) => if now.contains (i : Int) || !okNext l now (i : Int) then [] else sieve l d (now ++ [(i : Int)])) := by
          simp only [spec_l04Orders.j1, if_true]
          rw [step trivial]
          exact ihm (i + 1) k acc (by omega) (by omega) hskip
        by_cases hc : now.contains (i : Int) = true
        · rw [if_pos hc, skip, if_pos (by rw [hc]; rfl)]
          rfl
        · rw [if_neg hc]
          have take : okNext l now (i : Int) = true → spec_l04Orders.j1 (k + 1) l now acc (i : Int) false = some (acc ++ (sieve l d (now ++ [(i : Int)]) ++ ((List.range l.length).drop (i + 1)).flatMap fun (i : Nat) => if now.contains (i : Int) || !okNext l now (i : Int) then [] else sieve l d (now ++ [(i : Int)]))) := by
            intro hok
            have hsl : (sieve l d (now ++ [(i : Int)])).length ≤ 117649 := Nat.le_trans (hsl0 (now ++ [(i : Int)])) hpow
            simp only [spec_l04Orders.j1, Bool.false_eq_true, if_false]
            rw [l00Own_is now (by omega)]
            simp only [Option.bind_some]
            rw [if_pos (by omega), ih (now ++ [(i : Int)]) k (by simp; omega) (fun x hx => by
              rcases List.mem_append.1 hx with hx | hx
              · exact hin x hx
              · rw [List.mem_singleton.1 hx]; omega) (by omega)]
            simp only [Option.bind_some]
            rw [if_pos (by omega), step trivial, ihm (i + 1) k _ (by omega) (by omega) (hstep _ (hsl0 _))]
            simp
          by_cases hnow : (now.length : Int) > 0
          · have hw : wrap64 ((now.length : Int) - 1) = (now.length : Int) - 1 := w64_id (by omega)
            have hne : now ≠ [] := by intro e; rw [e] at hnow; simp at hnow
            have hlast : rd now ((now.length : Int) - 1) = now.getLast hne := by
              rw [rd, List.getD_eq_getElem?_getD, List.getLast_eq_getElem, List.getElem?_eq_getElem (by omega)]
              simp
            have hli := hin (now.getLast hne) (List.getLast_mem hne)
            rw [if_pos hnow, hw, if_pos (by omega), if_pos (by omega), hlast, if_pos hli.1, if_pos hli.2, if_pos (by omega)]
            rw [specMay_is _ _ (in8 _ hli.1 hli.2) (in8 (i : Int) (by omega) (by omega))]
            simp only [Option.bind_some]
            have hk2 : okNext l now (i : Int) = mayH (rd_T73 l (now.getLast hne)) (rd_T73 l (i : Int)) := by
              unfold okNext
              rw [List.getLast?_eq_some_getLast hne]
            rw [← hk2]
            cases hok : okNext l now (i : Int) with
            | true =>
              rw [Bool.not_true, take hok, if_neg (by simp; simpa using hc)]
            | false =>
              rw [Bool.not_false, skip, if_pos (by simp)]
              rfl
          · rw [if_neg hnow]
            have hnil : now = [] := List.length_eq_zero_iff.1 (by omega)
            have hok : okNext l now (i : Int) = true := by rw [hnil]; rfl
            rw [take hok, if_neg (by rw [hok]; simp; simpa using hc)]
    obtain ⟨k, rfl⟩ : ∃ m, k = m + 1 := ⟨k - 1, by omega⟩
    simp only [spec_l04Orders.f]
    rw [if_neg (by omega)]
    have := loop l.length 0 k [] (by omega) (by
      unfold ordNeed at hk ⊢
      rw [Nat.succ_mul] at hk
      omega) (by simp)
    simpa [sieve] using this

/-! The law's harness over a result that is a list of whole numbers. -/
theorem eqInt64S_l0 (l : List Int) (hl : l.length ≤ 1152921504606846976) : ∀ (rest : List Int) (p k : Nat), l.drop p = rest → rest.length < k → laws_eqInt64S.l0 k l l (p : Int) = some true := by
  intro rest
  induction rest with
  | nil =>
    intro p k hd hk
    obtain ⟨k, rfl⟩ : ∃ m, k = m + 1 := ⟨k - 1, by simp at hk; omega⟩
    have := of_drop_nil hd
    simp only [laws_eqInt64S.l0]
    rw [if_neg (by omega)]
  | cons x rest ih =>
    intro p k hd hk
    simp only [List.length_cons] at hk
    obtain ⟨k, rfl⟩ : ∃ m, k = m + 1 := ⟨k - 1, by omega⟩
    obtain ⟨hp, hd', hx⟩ := of_drop hd
    simp only [laws_eqInt64S.l0, if_true]
    rw [if_pos (by omega), if_pos (by omega), if_pos (by omega), step64 hp hl]
    exact ih (p + 1) k hd' (by omega)

theorem eqInt64S_is (l : List Int) (hl : l.length ≤ 1152921504606846976) (k : Nat) (hk : l.length < k) : laws_eqInt64S.f k l l = some true := by
  unfold laws_eqInt64S.f
  rw [if_pos rfl]
  exact eqInt64S_l0 l hl l 0 k rfl hk

/-- 1, 2, 3, .. in place of every number. -/
def marks : Int → Nat → List Int
  | _, 0 => []
  | a, n + 1 => a :: marks (a + 1) n

theorem marks_length : ∀ (n : Nat) (a : Int), (marks a n).length = n
  | 0, _ => rfl
  | n + 1, a => by simp [marks, marks_length n]

theorem markInt64S_l0 : ∀ (n p k : Nat) (l : List Int) (a : Int), l.length ≤ 1152921504606846976 → l.length = p + n → n < k → 0 ≤ a → a ≤ 2305843009213693952 + p →
    laws_markInt64S.l0 k l a (p : Int) = some (a + n, l.take p ++ marks a n)
  | 0, p, k, l, a, hl, hn, hk, h0, h1 => by
    obtain ⟨k, rfl⟩ : ∃ m, k = m + 1 := ⟨k - 1, by omega⟩
    simp only [laws_markInt64S.l0, marks]
    rw [if_neg (by omega), List.take_of_length_le (by omega)]
    simp
  | n + 1, p, k, l, a, hl, hn, hk, h0, h1 => by
    obtain ⟨k, rfl⟩ : ∃ m, k = m + 1 := ⟨k - 1, by omega⟩
    simp only [laws_markInt64S.l0]
    rw [if_pos (by omega), if_pos (by omega), w64_id (by omega), step64 (show p < l.length by omega) hl, Int.toNat_natCast,
      markInt64S_l0 n (p + 1) k (l.set p a) (a + 1) (by simpa using hl) (by simp; omega) (by omega) (by omega) (by omega), take_set_at _ _ _ (by omega)]
    simp only [marks, Option.some.injEq, Prod.mk.injEq, List.append_assoc, List.singleton_append, and_true]
    omega

theorem markInt64S_is (l : List Int) (hl : l.length ≤ 1152921504606846976) (k : Nat) (hk : l.length < k) : laws_markInt64S.f k l 1 = some (1 + (l.length : Int), marks 1 l.length) := by
  unfold laws_markInt64S.f
  exact (markInt64S_l0 l.length 0 k l 1 hl (by simp) hk (by omega) (by omega)).trans (by rw [List.take_zero, List.nil_append])

theorem heldInt64S_l0 (l : List Int) (hl : l.length ≤ 1152921504606846976) : ∀ (n p k : Nat) (a : Int), l.length = p + n → l.drop p = marks a n → n < k → 0 ≤ a → a ≤ 2305843009213693952 + p →
    laws_heldInt64S.l0 k l a (p : Int) = some (a + n)
  | 0, p, k, a, hn, hd, hk, h0, h1 => by
    obtain ⟨k, rfl⟩ : ∃ m, k = m + 1 := ⟨k - 1, by omega⟩
    simp only [laws_heldInt64S.l0]
    rw [if_neg (by omega)]
    simp
  | n + 1, p, k, a, hn, hd, hk, h0, h1 => by
    obtain ⟨k, rfl⟩ : ∃ m, k = m + 1 := ⟨k - 1, by omega⟩
    obtain ⟨hp, hd', hx⟩ := of_drop hd
    simp only [laws_heldInt64S.l0, rd, hx, if_true]
    rw [if_pos (by omega), if_pos (by omega), w64_id (by omega), step64 hp hl, heldInt64S_l0 l hl n (p + 1) k (a + 1) (by omega) hd' (by omega) (by omega) (by omega)]
    simp only [Option.some.injEq]
    omega

theorem heldInt64S_is (n : Nat) (hl : n ≤ 1152921504606846976) (k : Nat) (hk : n < k) : laws_heldInt64S.f k (marks 1 n) 1 = some (1 + (n : Int)) := by
  unfold laws_heldInt64S.f
  exact heldInt64S_l0 (marks 1 n) (by rw [marks_length]; exact hl) n 0 k 1 (by rw [marks_length]; simp) rfl hk (by omega) (by omega)

theorem toInt64S_l0 (l : List Int) (hl : l.length ≤ 1152921504606846976) : ∀ (rest : List Int) (p k : Nat) (ys : List Int), l.drop p = rest → ys.length = l.length → rest.length < k →
    laws_toInt64S.l0 k l ys (p : Int) = some (ys.take p ++ rest) := by
  intro rest
  induction rest with
  | nil =>
    intro p k ys hd hy hk
    obtain ⟨k, rfl⟩ : ∃ m, k = m + 1 := ⟨k - 1, by simp at hk; omega⟩
    have := of_drop_nil hd
    simp only [laws_toInt64S.l0]
    rw [if_neg (by omega), List.take_of_length_le (by omega)]
    simp
  | cons x rest ih =>
    intro p k ys hd hy hk
    simp only [List.length_cons] at hk
    obtain ⟨k, rfl⟩ : ∃ m, k = m + 1 := ⟨k - 1, by omega⟩
    obtain ⟨hp, hd', hx⟩ := of_drop hd
    simp only [laws_toInt64S.l0, rd, hx, Option.bind_some]
    rw [if_pos (by omega), if_pos (by omega), if_pos (by omega), step64 hp hl, ih (p + 1) k _ hd' (by simpa using hy) (by omega), Int.toNat_natCast, take_set_at _ _ _ (by omega)]
    simp
theorem toInt64S_is (l : List Int) (hl : l.length * 8 ≤ 140737488351232) (k : Nat) (hk : l.length < k) : laws_toInt64S.f k l = some l := by
  unfold laws_toInt64S.f
  rw [if_pos (by omega), if_pos (by omega)]
  have := toInt64S_l0 l (by omega) l 0 k (List.replicate (l.length : Int).toNat 0) rfl (by simp) hk
  simpa using this

theorem markHullS_l0 : ∀ (n p k : Nat) (l : List S73) (a : Int), l.length ≤ 93824992236885 → l.length = p + n → n < k → 1 ≤ a → a ≤ 1 + 3 * p →
    ∃ ys : List S73, laws_markHullS.l0 k l a (p : Int) = some (a + 3 * n, ys)
  | 0, p, k, l, a, hl, hn, hk, h0, h1 => by
    obtain ⟨k, rfl⟩ : ∃ m, k = m + 1 := ⟨k - 1, by omega⟩
    refine ⟨l, ?_⟩
    simp only [laws_markHullS.l0]
    rw [if_neg (by omega)]
    simp
  | n + 1, p, k, l, a, hl, hn, hk, h0, h1 => by
    obtain ⟨k, rfl⟩ : ∃ m, k = m + 1 := ⟨k - 1, by omega⟩
    simp only [laws_markHullS.l0]
    rw [if_pos (by omega), if_pos (by omega)]
    rw [w64_id (a := a + 1) (by omega), w64_id (a := a + 1 + 1) (by omega), w64_id (a := a + 1 + 1 + 1) (by omega), step64 (show p < l.length by omega) (by omega)]
    have key : ∀ Y : List S73, Y.length = l.length → ∃ ys, laws_markHullS.l0 k Y (a + 1 + 1 + 1) ((p + 1 : Nat) : Int) = some (a + 3 * ((n + 1 : Nat) : Int), ys) := by
      intro Y hY
      obtain ⟨ys, e⟩ := markHullS_l0 n (p + 1) k Y (a + 1 + 1 + 1) (by omega) (by omega) (by omega) (by omega) (by omega)
      refine ⟨ys, ?_⟩
      rw [e]
      simp only [Option.some.injEq, Prod.mk.injEq, and_true]
      omega
    exact key _ (by simp)

theorem markHullS_is (l : List S73) (hl : l.length ≤ 93824992236885) (k : Nat) (hk : l.length < k) : ∃ ys, laws_markHullS.f k l 1 = some (1 + 3 * (l.length : Int), ys) := by
  unfold laws_markHullS.f
  exact markHullS_l0 l.length 0 k l 1 hl (by simp) hk (by omega) (by omega)

/-- The law, in plain Lean. -/
def FnExactLeastMoves.Said : Prop := ∀ (l0 : List S75) (l1 : List Int), l0.length ≤ maxLen → l0.length * 3 ≤ 140737488351232 → (∀ x ∈ l0, (Lit.int .i8 x.f0).wf = true ∧ (Lit.int .i8 x.f1).wf = true ∧ (Lit.int .i8 x.f2).wf = true) → l1.length ≤ maxLen → l1.length * 8 ≤ 140737488351232 → (∀ x ∈ l1, (Lit.int .i64 x).wf = true) → ∃ k, laws_FnExactLeastMoves.f k l0 l1 = some true

theorem exts_all (n : Nat) : ∀ (d : Nat) (now : List Int), now.Nodup → (∀ x ∈ now, 0 ≤ x ∧ x < n) → ∀ o ∈ exts n d now, o.length = now.length + d ∧ o.Nodup ∧ ∀ x ∈ o, 0 ≤ x ∧ x < n := by
  intro d
  induction d with
  | zero => intro now hn hi o ho; simp only [exts, List.mem_singleton] at ho; rw [ho]; exact ⟨rfl, hn, hi⟩
  | succ d ih =>
    intro now hn hi o ho
    simp only [exts, List.mem_flatMap] at ho
    obtain ⟨i, hir, ho⟩ := ho
    have hlt := List.mem_range.1 hir
    split at ho
    · simp at ho
    · rename_i hc
      have hc' : (i : Int) ∉ now := by simpa using hc
      obtain ⟨g1, g2, g3⟩ := ih _ (List.nodup_append.2 ⟨hn, by simp, fun a ha b hb e => by
        rw [List.mem_singleton.1 hb] at e
        exact hc' (e ▸ ha)⟩) (fun x hx => by
        rcases List.mem_append.1 hx with hx | hx
        · exact hi x hx
        · rw [List.mem_singleton.1 hx]; omega) o ho
      rw [List.length_append, List.length_singleton] at g1
      exact ⟨by omega, g2, g3⟩
def leastF (r : List Int) (s : List Int × Int) (o : List Int) : List Int × Int := if s.2 < 0 ∨ moveP o r < s.2 then (o, moveP o r) else s
theorem least_run (l : List S73) (r : List Int) : ∀ (os : List (List Int)) (s : List Int × Int), runAll (leastSt l r) s os = ((os.filter (raftB l)).foldl (leastF r) s, true)
  | [], s => rfl
  | o :: os, s => by
    have e : leastSt l r s o = (if raftB l o = true then leastF r s o else s, true) := by
      unfold leastSt leastF raftB
      by_cases h : wrongH (pickH l o) < 0
      · rw [if_neg (by omega), if_pos (decide_eq_true h)]
      · rw [if_pos (by omega), if_neg (by simpa using h)]
    simp only [runAll, e, if_true]
    rw [least_run l r os]
    rw [List.filter_cons]
    by_cases h : raftB l o = true
    · rw [if_pos h, if_pos h]; rfl
    · rw [if_neg h, if_neg h]
theorem leastF_mem (r : List Int) : ∀ (os : List (List Int)) (s : List Int × Int), (os.foldl (leastF r) s).1 = s.1 ∨ (os.foldl (leastF r) s).1 ∈ os
  | [], s => .inl rfl
  | o :: os, s => by
    rw [List.foldl_cons]
    rcases leastF_mem r os (leastF r s o) with h | h
    · rw [h]
      unfold leastF
      split
      · exact .inr List.mem_cons_self
      · exact .inl rfl
    · exact .inr (List.mem_cons_of_mem _ h)
/-- What both answer. -/
def leastT (s : List Int × Int) : List Int × Int × Int := if s.2 < 0 then ([], 0, 6) else (s.1, s.2, 0)
def leastQ (l : List S73) (r : List Int) : List Int × Int × Int := if codeH l = 0 then (if okE l.length r = true then leastT ((sieve l l.length []).foldl (leastF r) ([], -1)) else ([], 0, 4)) else ([], 0, codeH l)
theorem sieve_in (l : List S73) : ∀ o ∈ sieve l l.length [], o.length = l.length ∧ o.Nodup ∧ ∀ x ∈ o, 0 ≤ x ∧ x < (l.length : Int) := by
  intro o ho
  have e := raftB_sieve l l.length []
  have hn : raftB l [] = true := by simp [raftB, pickH, wrongH]
  rw [if_pos hn] at e
  have : o ∈ (exts l.length l.length []).filter (raftB l) := by rw [e]; exact ho
  have := exts_all l.length l.length [] List.nodup_nil (by simp) o (List.mem_filter.1 this).1
  simpa using this
theorem leastQ_length (l : List S73) (r : List Int) : (leastQ l r).1.length ≤ l.length := by
  unfold leastQ leastT
  split
  · split
    · split
      · simp
      · rcases leastF_mem r (sieve l l.length []) ([], -1) with h | h
        · rw [h]; simp
        · exact Nat.le_of_eq (sieve_in l _ h).1
    · simp
  · simp
theorem implLeast_is (l : List S73) (r : List Int) (hl : l.length ≤ 1048576) (hr : r.length ≤ 1048576) : impl_LeastMoves.f l r = some (leastQ l r) := by
  unfold impl_LeastMoves.f leastQ
  rw [if_pos ⟨hl, hr⟩]
  by_cases hc : codeH l = 0
  · rw [if_pos hc, if_pos hc]
    by_cases ho : okE l.length r = true
    · rw [if_pos ho, if_pos ho]
      have e : leastR l r = (sieve l l.length []).foldl (leastF r) ([], -1) := by
        unfold leastR
        rw [least_run]
        have e := raftB_sieve l l.length []
        have hn : raftB l [] = true := by simp [raftB, pickH, wrongH]
        rw [if_pos hn] at e
        rw [e]
      rw [e]
      rfl
    · rw [if_neg ho, if_neg ho]
  · rw [if_neg hc, if_neg hc]
theorem specMoves_is (o r : List Int) (ho : o.length ≤ 7) (hr : r.length ≤ 7) (hno : o.Nodup) (hnr : r.Nodup) (h : ∀ x ∈ r, x ∈ o) (k : Nat) (hk : 200 < k) : spec_l04Moves.f k o r = some (moveP o r) := by
  unfold spec_l04Moves.f
  have hmul : r.length * (o.length + 2) ≤ 7 * 9 := Nat.mul_le_mul hr (by omega)
  have e := spec_l0 o r (by omega) (by omega) r 0 k 0 rfl (by omega) (by omega) (by omega)
  have e' : spec_l04Moves.l0 k o r 0 0 = _ := e
  rw [e', moveP_is o r hno hnr h, Int.zero_add]
  rfl
theorem specLeast_l0 (n : Nat) (hn : n ≤ 7) (r : List Int) (hr : okE n r = true) (all : List (List Int)) (hall : all.length ≤ 1000000) (hin : ∀ o ∈ all, o.length = n ∧ o.Nodup ∧ ∀ x ∈ o, 0 ≤ x ∧ x < (n : Int)) : ∀ (rest : List (List Int)) (p k : Nat) (s : List Int × Int), all.drop p = rest → rest.length + 300 < k → spec_LeastMoves.l0 k r s.1 s.2 all (p : Int) = some (leastT (rest.foldl (leastF r) s)) := by
  obtain ⟨k1, k2, k3⟩ := okE_all hr
  intro rest
  induction rest with
  | nil =>
    intro p k s hd hk
    obtain ⟨k, rfl⟩ : ∃ m, k = m + 1 := ⟨k - 1, by omega⟩
    have := of_drop_nil hd
    rw [List.foldl_nil]
    simp only [spec_LeastMoves.l0]
    unfold leastT
    rw [if_neg (by omega)]
    by_cases g : s.2 < 0
    · rw [if_pos g, if_pos g]
    · rw [if_neg g, if_neg g]
  | cons o rest ih =>
    intro p k s hd hk
    simp only [List.length_cons] at hk
    obtain ⟨k, rfl⟩ : ∃ m, k = m + 1 := ⟨k - 1, by omega⟩
    obtain ⟨hp, hd', hx⟩ := of_drop hd
    obtain ⟨o1, o2, o3⟩ := hin o (List.mem_of_mem_drop (by rw [hd]; exact List.mem_cons_self))
    have hperm := perm_of_sub o (cntI n) o2 (fun x hx => cntI_mem.2 (o3 x hx)) (by rw [cntI_length]; omega)
    have hrd : rd_L4 all (p : Int) = o := by unfold rd_L4; exact hx _
    simp only [spec_LeastMoves.l0, hrd, List.foldl_cons]
    rw [if_pos (by omega), if_pos (by omega), specMoves_is o r (by omega) (by omega) o2 k2 (fun x hx => hperm.mem_iff.2 (cntI_mem.2 (k1 x hx))) k (by omega), step64 hp (by omega)]
    simp only [Option.bind_some]
    by_cases h1 : s.2 < 0
    · rw [if_pos h1, show leastF r s o = (o, moveP o r) from if_pos (.inl h1)]
      exact ih (p + 1) k (o, moveP o r) hd' (by omega)
    · rw [if_neg h1]
      by_cases h2 : moveP o r < s.2
      · rw [if_pos h2, show leastF r s o = (o, moveP o r) from if_pos (.inr h2)]
        exact ih (p + 1) k (o, moveP o r) hd' (by omega)
      · rw [if_neg h2, show leastF r s o = s from if_neg (fun g => by rcases g with g | g; exact h1 g; exact h2 g)]
        exact ih (p + 1) k s hd' (by omega)
theorem specLeast_is (l : List S73) (r : List Int) (hl : l.length ≤ 1048576) (hr : r.length ≤ 1048576) (h8 : ∀ x ∈ l, In8 x) (k : Nat) (hk : l.length + 2 * r.length + 1000000 < k) : spec_LeastMoves.f k l r = some (leastQ l r) := by
  unfold spec_LeastMoves.f spec_l04Leaving.f leastQ
  rw [l04Asked_is l (by omega) h8 k (by omega)]
  simp only [Option.bind_some]
  by_cases hc : codeH l = 0
  · rw [if_pos hc, if_pos hc, each_is l.length hl r hr k (by omega)]
    simp only [Option.bind_some]
    by_cases ho : okE l.length r = true
    · have h7 := (codeH_ok hc).1
      rw [if_pos ho, if_pos ho, hc]
      simp only [Option.bind_some]
      rw [if_pos trivial, l04Orders_is l h8 h7 l.length [] k (by simp) (by simp) (by
        have : ordNeed l.length l.length ≤ 1000 := by
          unfold ordNeed
          have : (l.length + 1) * (2 * l.length + 2) ≤ 8 * 16 := Nat.mul_le_mul (by omega) (by omega)
          omega
        omega)]
      simp only [Option.bind_some]
      have hlen := sieve_length l h7 l.length []
      have hpow : 7 ^ l.length ≤ 7 ^ 7 := Nat.pow_le_pow_right (by omega) h7
      have h77 : (7 : Nat) ^ 7 = 823543 := by decide
      exact specLeast_l0 l.length h7 r ho _ (by omega) (sieve_in l) _ 0 k ([], -1) rfl (by omega)
    · rw [if_neg ho, if_neg ho]
      simp
  · rw [if_neg hc, if_neg hc]
    simp only [Option.bind_some]
    rw [if_neg hc]
theorem markInt64S_any (l : List Int) (a : Int) (hl : l.length ≤ 1152921504606846976) (h0 : 0 ≤ a) (h1 : a ≤ 2305843009213693952) (k : Nat) (hk : l.length < k) : ∃ ys, laws_markInt64S.f k l a = some (a + (l.length : Int), ys) := by
  unfold laws_markInt64S.f
  exact ⟨_, markInt64S_l0 l.length 0 k l a hl (by simp) hk h0 (by omega)⟩
theorem FnExactLeastMoves : FnExactLeastMoves.Said := by
  intro l r hm hy hok hm' hy' hok'
  have hl : l.length ≤ 93824992236885 := by omega
  have h8 := cvH_in hok
  have hlm : (l.map cvH).length = l.length := List.length_map ..
  refine ⟨2 * l.length + 2 * r.length + 1000230, ?_⟩
  unfold laws_FnExactLeastMoves.f
  by_cases big0 : (r.length : Int) > 1048576
  · rw [if_pos big0]
  rw [if_neg big0, szHullS_is l _ hl (by omega) (by omega)]
  simp only [Option.bind_some]
  by_cases big : (1048576 : Int) < l.length
  · rw [if_pos big]; rfl
  · rw [if_neg big, if_neg (by omega), toHullS_is l hl _ (by omega)]
    simp only [Option.bind_some]
    rw [toInt64S_is r (by omega) _ (by omega)]
    simp only [Option.bind_some]
    have hr := leastQ_length (l.map cvH) r
    generalize hR : leastQ (l.map cvH) r = R at hr
    rw [specLeast_is _ r (by omega) (by omega) h8 _ (by omega), implLeast_is _ r (by omega) (by omega), hR]
    simp only [Option.bind_some]
    rw [eqInt64S_is _ (by omega) _ (by omega)]
    simp only [Option.bind_some, if_true, bne_self_eq_false, laws_FnExactLeastMoves.j0, Bool.false_eq_true, if_false]
    rw [toHullS_is l hl _ (by omega), toInt64S_is r (by omega) _ (by omega)]
    simp only [Option.bind_some]
    rw [eqHullS_is _ (by omega) _ (by omega)]
    simp only [Option.bind_some, if_true]
    rw [eqInt64S_is r (by omega) _ (by omega)]
    simp only [Option.bind_some, if_true]
    obtain ⟨ys, e⟩ := markHullS_is (l.map cvH) (by omega) (2 * l.length + 2 * r.length + 1000229) (by omega)
    rw [e]
    simp only [Option.bind_some]
    obtain ⟨ys2, e2⟩ := markInt64S_any r (1 + 3 * ((l.map cvH).length : Int)) (by omega) (by omega) (by omega) (2 * l.length + 2 * r.length + 1000229) (by omega)
    rw [e2]
    simp only [Option.bind_some]
    rw [if_neg (by omega), eqInt64S_is _ (by omega) _ (by omega)]
    simp only [Option.bind_some, if_true, laws_FnExactLeastMoves.j1, Bool.false_eq_true, if_false]
    rw [markInt64S_is _ (by omega) _ (by omega)]
    simp only [Option.bind_some]
    rw [heldInt64S_is _ (by omega) _ (by omega)]
    simp only [Option.bind_some, if_true]
    rw [if_neg (by omega), toHullS_is l hl _ (by omega), toInt64S_is r (by omega) _ (by omega)]
    simp only [Option.bind_some]
    rw [implLeast_is _ r (by omega) (by omega), hR]
    simp only [Option.bind_some]
    rw [eqInt64S_is _ (by omega) _ (by omega)]
    simp only [Option.bind_some, if_true, bne_self_eq_false, laws_FnExactLeastMoves.j2, Bool.false_eq_true, if_false]
    rw [heldInt64S_is _ (by omega) _ (by omega)]
    simp only [Option.bind_some, if_true]
    rw [if_neg (by omega)]

end Go.Proofs.Ytjcdgimldhodiaa.Pure
