/- Printed by this session's plus.py out of the translation, some functions' texts being this session's own. -/
import Derived.Test.YtpimdgkofgendaaPFnExactShortestQuayx0
import Derived.Test.YtpimdgkofgendaaPFnExactShortestQuayx6
import Derived.Test.YtpimdgkofgendaaPFnExactShortestQuayx7
namespace Go.Proofs.Ytpimdgkofgendaa.PFnExactShortestQuay
open Go.RowKit Go.Proofs.YtpimdgkofgendaaW.PrintWords Go.Proofs.YtpimdgkofgendaaW.PrintLast Go.Proofs.YtpimdgkofgendaaW.PrintMore
attribute [local go_sem] max2_int min2_int max_two min_two max_three min_three max_four min_four   -- for this text's walks alone
set_option linter.unusedVariables false
set_option linter.unusedSimpArgs false

/-! ### impl_partings: function 101: this session's own text -/
theorem cell_of_ints {w : World} {g t : Nat} {k : IntKind} {xs : List Int} (h : w.heap[g]? = some (.cells (xs.map (Value.int k)).toArray t (0, 0))) {i : Int} (hi : i.toNat < xs.length) : w.cell? ⟨g, i.toNat, none⟩ = some (.int k (rd xs i)) := by
  rw [blk_cell h]
  simp [rd, List.getD_eq_getElem?_getD, List.getElem?_eq_getElem hi]
theorem ints_put {w : World} {g t : Nat} {k : IntKind} {xs : List Int} (h : w.heap[g]? = some (.cells (xs.map (Value.int k)).toArray t (0, 0))) (i : Nat) (u : Int) : (w.setCell ⟨g, i, none⟩ (.int k u)).heap[g]? = some (.cells ((xs.set i u).map (Value.int k)).toArray t (0, 0)) :=
  blk_put h i _ (by simp [List.map_set])
theorem drop_rd {α : Type} {xs : List α} {i : Int} (d : α) (h0 : 0 ≤ i) (h : i < (xs.length : Int)) : xs.drop i.toNat = xs.getD i.toNat d :: xs.drop (i + 1).toNat := by
  rw [show (i + 1).toNat = i.toNat + 1 by omega, List.drop_eq_getElem_cons (by omega), List.getD_eq_getElem?_getD, List.getElem?_eq_getElem (by omega)]
  rfl
theorem w64_in {a : Int} (h0 : -9223372036854775808 ≤ a) (h1 : a ≤ 9223372036854775807) : wrap64 a = a := by unfold wrap64; omega
theorem wi64 {a : Int} (h0 : -9223372036854775808 ≤ a) (h1 : a ≤ 9223372036854775807) : IntKind.i64.wrap a = a := by
  have : IntKind.i64.wrap a = if a % 18446744073709551616 ≥ 9223372036854775808 then a % 18446744073709551616 - 18446744073709551616 else a % 18446744073709551616 := by
    simp [IntKind.wrap, IntKind.signed, IntKind.bits]
  rw [this]
  split <;> omega

/-- All partings that go on from one that has been begun, d hulls being left, many rafts having been begun; each with its number of rafts. -/
def parts : Nat → List Int → Nat → List (List Int × Int)
  | 0, now, many => [(now, (many : Int))]
  | d + 1, now, many => (List.range (many + 1)).flatMap fun (k : Nat) => parts d (now ++ [(k : Int)]) (max many (k + 1))
/-- A function called for one parting after the other. -/
def runP {σ : Type} (st : σ → List Int → Int → σ) (s : σ) (qs : List (List Int × Int)) : σ := qs.foldl (fun s q => st s q.1 q.2) s
theorem runP_append {σ : Type} (st : σ → List Int → Int → σ) (s : σ) (a b : List (List Int × Int)) : runP st s (a ++ b) = runP st (runP st s a) b := by simp [runP]
def partRest (d : Nat) (now : List Int) (many i : Nat) : List (List Int × Int) := ((List.range (many + 1)).drop i).flatMap fun (k : Nat) => parts d (now ++ [(k : Int)]) (max many (k + 1))
theorem partRest_zero (d : Nat) (now : List Int) (many : Nat) : partRest d now many 0 = parts (d + 1) now many := rfl
theorem partRest_step {d : Nat} {now : List Int} {many i : Nat} (h : i ≤ many) : partRest d now many i = parts d (now ++ [(i : Int)]) (max many (i + 1)) ++ partRest d now many (i + 1) := by
  unfold partRest
  rw [List.drop_eq_getElem_cons (by simp; omega), List.flatMap_cons]
  simp
theorem partRest_end {d : Nat} {now : List Int} {many i : Nat} (h : many < i) : partRest d now many i = [] := by
  unfold partRest
  rw [List.drop_eq_nil_of_le (by simp; omega)]
  rfl

/-- One number appended where there is room, as one step of a region that draws its order. -/
theorem step_room_one {P : Program} {ops : Array Oper} {o : Oper} {a : Act} {w : World} {K : Act → World → Prop} {Q : Exit → Act → World → Prop} {E : Prop}
    (hw : Region.wanted o (yielded ops a.tmps) = true) (s x : Operand) (t : TypeId) (hop : o.op = Op.call { callee := Callee.builtin Builtin.append, args := #[s, x], argTypes := #[t, t] })
    (e : TypeId) (i : TypeInfo) (h1 : P.underlying t = some (.slice e)) (h2 : P.info? e = some i) (h4 : i.size = 1)
    (G n cap : Nat) (hs : a.eval s = .slice (some ⟨G, 0, none⟩) n cap) (ad : Addr) (c : Nat) (v : Value) (hx : a.eval x = .slice (some ad) 1 c) (hc : w.cell? ad = some v) (hv : v.oneCell' = true)
    (hroom : n + 1 ≤ cap) (cs : Array Value) (tt : TypeId) (hG : w.heap[G]? = some (.cells cs tt (0, 0))) (hn : n < cs.size)
    (hK : K (a.put o.dst (.slice (some ⟨G, 0, none⟩) (n + 1) cap)) (w.setCell ⟨G, n, none⟩ v)) :
    if Region.wanted o (yielded ops a.tmps) = true then Oper.wp P o a w K Q else E := by
  rw [if_pos hw]
  have hcell := blk_cell hG n
  have hfz := blk_frozen hG n
  have hrun := run_append_room_cells (P := P) (w := w) t o.type e i h1 h2 G 0 n cap ad 1 c [v] (by simp [h4]) (fun j u hj => by
    cases j with
    | zero => simp only [List.getElem?_cons_zero, Option.some.injEq] at hj; subst hj; rw [show ad.add 0 = ad by simp [Addr.add]]; exact hc
    | succ j => simp at hj) (fun u hu => by rw [List.mem_singleton.1 hu]; exact hv) hroom (fun j hj => by
      obtain rfl : j = 0 := by simpa using hj
      rw [h4, show 0 + n * 1 + 0 = n by omega, hcell]
      simp [hn]) (fun j hj => by
      obtain rfl : j = 0 := by simpa using hj
      rw [h4, show 0 + n * 1 + 0 = n by omega]
      exact hfz)
  rw [h4, show 0 + n * 1 = n by omega] at hrun
  unfold Oper.wp
  simp [execOp, hop, resolve, invoke, builtin, hs, hx, hrun, Result.andThen]
  exact hK
theorem new_cell (w : World) (x : Value) (t : TypeId) : (w.alloc (.cells #[x] t)).cell? ⟨w.heap.size, 0, none⟩ = some x := by
  rw [blk_cell (blk_new w _)]
  rfl
theorem new_cell_drew (w : World) (x : Value) (t : TypeId) : ((w.alloc (.cells #[x] t)).drew).cell? ⟨w.heap.size, 0, none⟩ = some x := by
  rw [blk_cell (blk_drew (blk_new w _))]
  rfl
theorem pre_step {n G tt i : Nat} {now : List Int} {cs : Array Value} {wr W1 : World} (h : wr.heap[G]? = some (.cells cs tt (0, 0)) ∧ cs.size = n ∧ (∀ j, j < now.length → cs[j]? = some (.int .i64 (now.getD j 0)))) (hl : now.length < n) (h1 : W1.heap[G]? = some (.cells cs tt (0, 0))) :
    ∃ cs2, (W1.setCell ⟨G, now.length, none⟩ (.int .i64 (i : Int))).heap[G]? = some (.cells cs2 tt (0, 0)) ∧ cs2.size = n ∧ ∀ j, j < now.length + 1 → cs2[j]? = some (.int .i64 ((now ++ [(i : Int)]).getD j 0)) := by
  refine ⟨_, blk_set h1 _ _, by simpa using h.2.1, fun j hj => ?_⟩
  rw [Array.getElem?_setIfInBounds]
  by_cases e : now.length = j
  · subst e
    rw [if_pos rfl, if_pos (by rw [h.2.1]; exact hl)]
    simp [List.getD_eq_getElem?_getD]
  · rw [if_neg e, h.2.2 j (by omega)]
    simp [List.getD_eq_getElem?_getD, List.getElem?_append_left (show j < now.length by omega)]
theorem pre_step_drew {n G tt i : Nat} {now : List Int} {cs : Array Value} {wr W1 : World} (h : wr.heap[G]? = some (.cells cs tt (0, 0)) ∧ cs.size = n ∧ (∀ j, j < now.length → cs[j]? = some (.int .i64 (now.getD j 0)))) (hl : now.length < n) (h1 : W1.heap[G]? = some (.cells cs tt (0, 0))) :
    ∃ cs2, ((W1.setCell ⟨G, now.length, none⟩ (.int .i64 (i : Int))).drew).heap[G]? = some (.cells cs2 tt (0, 0)) ∧ cs2.size = n ∧ ∀ j, j < now.length + 1 → cs2[j]? = some (.int .i64 ((now ++ [(i : Int)]).getD j 0)) := by
  obtain ⟨cs2, h2, h3, h4⟩ := pre_step (i := i) h hl h1
  exact ⟨cs2, blk_drew h2, h3, h4⟩
theorem make_cap (n : Nat) (hn : n ≤ 1000000) (W : World) : (Instr.makeSlice 30 (.int .i64 0) (.int .i64 (n : Int))).run Try.prog W = .ok (.slice (some ⟨W.heap.size, 0, none⟩) 0 n) (W.alloc (.cells (madeCells #[.int .i64 0] n) 2)) := by
  have h := infoI64
  cases hi : Try.prog.info? 2 with
  | none => rw [hi] at h; cases h
  | some i =>
    rw [hi] at h
    simp only [Option.map_some, Option.some.injEq, Prod.mk.injEq] at h
    obtain ⟨h1, h2, h3⟩ := h
    have := run_make (P := Try.prog) W 30 2 i (.int .i64 0) Try.underlying30 hi h1 .i64 .i64 0 (n : Int) (by omega) (by omega) (by rw [h3]; omega) (by omega)
    rw [h2, Int.toNat_natCast, Nat.mul_one] at this
    exact this
theorem four_new (w : World) (A B C D : Obj) : ((((w.alloc A).alloc B).alloc C).alloc D).heap[w.heap.size]? = some A ∧ ((((w.alloc A).alloc B).alloc C).alloc D).heap[w.heap.size + 1]? = some B ∧
    ((((w.alloc A).alloc B).alloc C).alloc D).heap[w.heap.size + 1 + 1]? = some C ∧ ((((w.alloc A).alloc B).alloc C).alloc D).heap[w.heap.size + 1 + 1 + 1]? = some D := by
  have s1 : (w.alloc A).heap.size = w.heap.size + 1 := by simp
  have s2 : ((w.alloc A).alloc B).heap.size = w.heap.size + 1 + 1 := by simp
  have s3 : (((w.alloc A).alloc B).alloc C).heap.size = w.heap.size + 1 + 1 + 1 := by simp
  have h1 := blk_new (w.alloc A) B
  have h2 := blk_new ((w.alloc A).alloc B) C
  have h3 := blk_new (((w.alloc A).alloc B).alloc C) D
  rw [s1] at h1
  rw [s2] at h2
  rw [s3] at h3
  exact ⟨blk_alloc (blk_alloc (blk_alloc (blk_new w A) B) C) D, blk_alloc (blk_alloc h1 C) D, blk_alloc h2 D, h3⟩

/-- A function value that is called for partings: what it does to a state, and what it leaves alone: blocks from B0 on. -/
structure Cp (σ : Type) (n B0 : Nat) (D : Nat) (caps : Array Value) (st : σ → List Int → Int → σ) (Inv : Nat → σ → World → Prop) : Prop where
  enters : ∀ (args : Array Value) (w : World), (callFunc D args).run Try.prog w = .ok (.enter D args) w
  stays : ∀ G s W W', B0 ≤ G → Inv G s W → Only (· = G) W W' → Inv G s W'
  called : ∀ G s W v o (m : Nat), B0 ≤ G → G < W.heap.size → Inv G s W → Kd.R (Kd.int .i64) 2 W (G + 1) (fun _ => True) v o → o.length = n → (∀ x ∈ o, 0 ≤ x ∧ x < n) → m ≤ n →
    Calls Try.prog D (#[v, .int .i64 m] ++ caps) W fun e W' => e = .returned (.tuple #[]) ∧ Inv G (st s o m) W' ∧ Only (· < B0) W W'
/-- The variables of partings in memory. -/
structure PBox (n D : Nat) (caps : Array Value) (G p : Nat) (W : World) : Prop where
  bn : W.heap[p]? = some (.cells #[.int .i64 n] 3 (0, 0))
  bd : W.heap[p + 1]? = some (.cells #[.func (.func D) #[] caps] 86 (0, 0))
  bg : W.heap[p + 2]? = some (.cells #[.func (.func 113) #[] #[.pointer (some ⟨p, 0, none⟩), .pointer (some ⟨p + 1, 0, none⟩), .pointer (some ⟨p + 2, 0, none⟩)]] 86 (0, 0))
  pG : p + 2 < G
theorem PBox.only {n D G p B0 : Nat} {caps : Array Value} {W W' : World} (h : PBox n D caps G p W) (k : Only (fun b => b = G ∨ b < B0) W W') (hp : B0 ≤ p) : PBox n D caps G p W' :=
  ⟨k.blk h.bn (by have := h.pG; omega), k.blk h.bd (by have := h.pG; omega), k.blk h.bg (by have := h.pG; omega), h.pG⟩
set_option maxHeartbeats 4000000 in
set_option maxRecDepth 100000 in
theorem partings1_zero {σ : Type} {n B0 D : Nat} {caps : Array Value} {st : σ → List Int → Int → σ} {Inv : Nat → σ → World → Prop} (C : Cp σ n B0 D caps st Inv) (hn : n ≤ 1000) (G p : Nat) (hp : B0 ≤ p) (now : List Int) (many : Nat) (hm : many ≤ n) (s : σ) (W : World)
    (hl : now.length = n) (hin : ∀ x ∈ now, 0 ≤ x ∧ x < n) (hb : PBox n D caps G p W) (cs : Array Value) (hG : W.heap[G]? = some (.cells cs 2 (0, 0))) (hcs : ∀ j, j < now.length → cs[j]? = some (.int .i64 (now.getD j 0))) (hI : Inv G s W) :
    Calls Try.prog 113 #[.slice (some ⟨G, 0, none⟩) n n, .int .i64 many, .pointer (some ⟨p, 0, none⟩), .pointer (some ⟨p + 1, 0, none⟩), .pointer (some ⟨p + 2, 0, none⟩)] W fun e W' => e = .returned (.tuple #[]) ∧ Inv G (st s now many) W' ∧ Only (· < B0) W W' := by
  have hbn := blk_cell hb.bn 0
  have hbd := blk_cell hb.bd 0
  have hcl : Aside0 (∀ W1, Below W.heap.size W W1 → Calls Try.prog 90 #[.slice (some ⟨G, 0, none⟩) n n] W1 fun e w' => ∃ v0_ : Value, e = .returned v0_ ∧ Kd.R (Kd.int .i64) 2 w' W1.heap.size (fun _ => True) v0_ now ∧ Below W1.heap.size W1 w') := ⟨fun W1 hb1 => by
    have hC : Kd.C (Kd.int .i64) W (some ⟨G, 0, none⟩) now.length now := Kd.C_of_reads (d := (0 : Int)) (h1 := fun _ => rfl) ⟨rfl, by omega, fun _ => ⟨_, rfl, fun j hj => by rw [add_plain, blk_cell hG]; exact hcs j hj⟩⟩
    have := slices_Clone_int64_int64.calls (some ⟨G, 0, none⟩) n now now W1 (Kd.C_below hC hb1) (by omega) (by unfold slices_Clone_int64_int64.f; rw [if_pos (by omega)])
    rw [hl] at this
    exact this⟩
  have hGl : G < W.heap.size := blk_lt hG
  have hB : B0 ≤ G := by have := hb.pG; omega
  have hcb : Aside0 (∀ W1 w1 v, Below W.heap.size W W1 → Below W1.heap.size W1 w1 → Kd.R (Kd.int .i64) 2 w1 W1.heap.size (fun _ => True) v now → Calls Try.prog D (#[v, .int .i64 many] ++ caps) w1 fun e W' => e = .returned (.tuple #[]) ∧ Inv G (st s now many) W' ∧ Only (· < B0) w1 W') := ⟨fun W1 w1 v h1 h2 hv =>
    C.called G s w1 v now many hB (Nat.lt_of_lt_of_le hGl (Nat.le_trans h1.size h2.size)) (C.stays G s W w1 hB hI ((Only.of_below h1).trans (Only.of_below h2))) (Kd.R_lower hv (Nat.le_trans (Nat.succ_le_of_lt hGl) h1.size)) hl hin hm⟩
  have HB := Aside0.mk (Below.refl W.heap.size W)
  have hent := C.enters
  clear hl hI hin hGl hB
  go_enter Try.func113, Try.ntmps113
  go_wp2
  go_region_with (first | (go_at_call 90; refine (hcl.out _ ?_).mono ?_; (exact below_drew HB.out); rintro e w1 ⟨v, rfl, hv, hb1⟩; have hbd1 : w1.cell? ⟨p + 1, 0, none⟩ = some (.func (.func D) #[] caps) := (hb1.cell (World.block_lt_of_cell? _ _ hbd)).trans hbd; have HV := Aside0.mk hv; have HB1 := Aside0.mk hb1; clear hv hb1) | (refine (hcb.out _ _ _ (below_drew HB.out) HB1.out HV.out).mono ?_; rintro e w2 ⟨rfl, hI2, hO2⟩; have HI2 := Aside0.mk hI2; have HO2 := Aside0.mk hO2; clear hI2 hO2))
  all_goals go_wp2
  all_goals exact bodyPost_ret (v := .tuple #[]) (by simp [results, Try.results113, go_sem]) rfl ⟨rfl, HI2.out, ((Only.refl _ W).drew.trans (Only.of_below HB1.out)).trans HO2.out⟩
/-- What partings1 does for a parting that has been begun. -/
def PPost {σ : Type} (n B0 : Nat) (st : σ → List Int → Int → σ) (Inv : Nat → σ → World → Prop) (G : Nat) (now : List Int) (qs : List (List Int × Int)) (s : σ) (W : World) (e : Ending) (W' : World) : Prop :=
  e = .returned (.tuple #[]) ∧ Inv G (runP st s qs) W' ∧ Only (fun b => b = G ∨ b < B0) W W' ∧ ∃ cs', W'.heap[G]? = some (.cells cs' 2 (0, 0)) ∧ cs'.size = n ∧ (∀ j, j < now.length → cs'[j]? = some (.int .i64 (now.getD j 0)))
set_option maxHeartbeats 8000000 in
set_option maxRecDepth 100000 in
theorem partings1_calls {σ : Type} {n B0 D : Nat} {caps : Array Value} {st : σ → List Int → Int → σ} {Inv : Nat → σ → World → Prop} (C : Cp σ n B0 D caps st Inv) (hn : n ≤ 1000) (G p : Nat) (hp : B0 ≤ p) : ∀ (d : Nat) (now : List Int) (many : Nat) (s : σ) (W : World) (cs : Array Value),
    now.length + d = n → many ≤ now.length → (∀ x ∈ now, 0 ≤ x ∧ x < n) → PBox n D caps G p W → W.heap[G]? = some (.cells cs 2 (0, 0)) → cs.size = n → (∀ j, j < now.length → cs[j]? = some (.int .i64 (now.getD j 0))) → Inv G s W →
    Calls Try.prog 113 #[.slice (some ⟨G, 0, none⟩) now.length n, .int .i64 many, .pointer (some ⟨p, 0, none⟩), .pointer (some ⟨p + 1, 0, none⟩), .pointer (some ⟨p + 2, 0, none⟩)] W (PPost n B0 st Inv G now (parts d now many) s W) := by
  intro d
  induction d with
  | zero =>
    intro now many s W cs hl hm hin hb hG hsz hcs hI
    have hl' : now.length = n := by omega
    have := partings1_zero C hn G p hp now many (by omega) s W hl' hin hb cs hG hcs hI
    rw [hl']
    exact this.mono fun e W' ⟨h1, h2, h3⟩ => ⟨h1, h2, h3.mono (fun _ h => .inr h), cs, h3.blk hG (by have := hb.pG; omega), hsz, hcs⟩
  | succ d ih =>
    intro now many s W cs hl hm hin hb hG hsz hcs hI
    have HIH := Aside0.mk ih
    clear ih
    have hbn := blk_cell hb.bn 0
    have hlen : decide ((now.length : Int) = (n : Int)) = false := decide_eq_false (by omega)
    have hlen' : ((now.length : Int) == (n : Int)) = false := beq_eq_false_iff_ne.mpr (by omega)
    have hm1 : wrap64 ((many : Int) + 1) = (many : Int) + 1 := w64_in (by omega) (by omega)
    have HL := Aside0.mk (And.intro hl (And.intro hm hin))
    have HP : Aside0 (PBox n D caps G p W ∧ Inv G s W ∧ Only (fun b => b = G ∨ b < B0) W W ∧ ∃ cs', W.heap[G]? = some (.cells cs' 2 (0, 0)) ∧ cs'.size = n ∧ (∀ j, j < now.length → cs'[j]? = some (.int .i64 (now.getD j 0)))) := ⟨hb, hI, Only.refl _ _, cs, hG, hsz, hcs⟩
    have hC := Aside0.mk C
    clear hl hin hb hG hsz hcs hI C hm
    go_enter Try.func113, Try.ntmps113
    go_wp2
    rw [hm1]
    clear hm1
    go_loopg [19] (many + 1) (fun gk v19 w' => ∃ (i : Nat) (s' : σ), v19 = .int .i64 i ∧ Aside0 (gk + i = many + 1) ∧ Aside0 (runP st s (parts (d + 1) now many) = runP st s' (partRest d now many i)) ∧ Aside0 (PBox n D caps G p w' ∧ Inv G s' w' ∧ Only (fun b => b = G ∨ b < B0) W w' ∧ ∃ cs', w'.heap[G]? = some (.cells cs' 2 (0, 0)) ∧ cs'.size = n ∧ (∀ j, j < now.length → cs'[j]? = some (.int .i64 (now.getD j 0)))))
    case atStart => exact ⟨0, s, rfl, ⟨rfl⟩, ⟨by rw [partRest_zero]⟩, HP⟩
    case round =>
      clear HP
      obtain ⟨i, s', rfl, HK, HR, HP⟩ := hrel
      by_cases c3 : i ≤ many
      · have c3b : decide ((i : Int) < ((many + 1 : Nat) : Int)) = true := decide_eq_true (by omega)
        have c3c : decide ((i : Int) < (many : Int) + 1) = true := decide_eq_true (by omega)
        have c3n : decide (i < many + 1) = true := decide_eq_true (by omega)
        have hx : wrap64 ((i : Int) + 1) = (i : Int) + 1 := by have := HL.out.1; have := HL.out.2.1; exact w64_in (by omega) (by omega)
        have HB := Aside0.mk (Below.refl wr.heap.size wr)
        have hbg := blk_cell HP.out.1.bg 0
        obtain ⟨ii, hii, hiz⟩ : ∃ ii, Try.prog.info? 2 = some ii ∧ ii.size = 1 := ⟨_, rfl, rfl⟩
        have HII := Aside0.mk hii
        have HIZ := Aside0.mk hiz
        obtain ⟨cs1, hcs1⟩ := HP.out.2.2.2
        have HCS := Aside0.mk hcs1
        have hnG : p + 2 ≠ G := by have := HP.out.1.pG; omega
        have hbg2 : ∀ (k : Nat) (o : Obj), ((wr.drewN k).alloc o).cell? ⟨p + 2, 0, none⟩ = some (.func (.func 113) #[] #[.pointer (some ⟨p, 0, none⟩), .pointer (some ⟨p + 1, 0, none⟩), .pointer (some ⟨p + 2, 0, none⟩)]) := fun k o => blk_cell (blk_alloc (blk_drewN HP.out.1.bg k) o) 0
        have hbg3 : ∀ (k : Nat) (o : Obj) (j : Nat) (v : Value), (((wr.drewN k).alloc o).setCell ⟨G, j, none⟩ v).cell? ⟨p + 2, 0, none⟩ = some (.func (.func 113) #[] #[.pointer (some ⟨p, 0, none⟩), .pointer (some ⟨p + 1, 0, none⟩), .pointer (some ⟨p + 2, 0, none⟩)]) := fun k o j v => blk_cell (blk_far (blk_alloc (blk_drewN HP.out.1.bg k) o) hnG v) 0
        have hbg4 : ∀ (o : Obj), (wr.alloc o).cell? ⟨p + 2, 0, none⟩ = some (.func (.func 113) #[] #[.pointer (some ⟨p, 0, none⟩), .pointer (some ⟨p + 1, 0, none⟩), .pointer (some ⟨p + 2, 0, none⟩)]) := fun o => blk_cell (blk_alloc HP.out.1.bg o) 0
        have hbg5 : ∀ (o : Obj) (j : Nat) (v : Value), ((wr.alloc o).setCell ⟨G, j, none⟩ v).cell? ⟨p + 2, 0, none⟩ = some (.func (.func 113) #[] #[.pointer (some ⟨p, 0, none⟩), .pointer (some ⟨p + 1, 0, none⟩), .pointer (some ⟨p + 2, 0, none⟩)]) := fun o j v => blk_cell (blk_far (blk_alloc HP.out.1.bg o) hnG v) 0
        have hroom : now.length + 1 ≤ n := by have := HL.out.1; omega
        have hcl : ∀ (o : Obj), (wr.alloc o).cell? ⟨G, now.length, none⟩ = some (cs1.getD now.length undef) := fun o => by
          have : now.length < cs1.size := by rw [HCS.out.2.1]; omega
          rw [blk_cell (blk_alloc HCS.out.1 o)]
          simp [Array.getD, this]
        have hfz : ∀ (o : Obj), (wr.alloc o).frozen? ⟨G, now.length, none⟩ = false := fun o => blk_frozen (blk_alloc HCS.out.1 o) _
        have hwi : IntKind.i64.wrap ((i : Int) + 1) = (i : Int) + 1 := by
          have := HL.out.1; have := HL.out.2.1
          exact wi64 (by omega) (by omega)
        obtain ⟨M, hM⟩ : ∃ M : Nat, M = max many (i + 1) := ⟨_, rfl⟩
        have hite : (if (many : Int) < (i : Int) + 1 then (i : Int) + 1 else (many : Int)) = (M : Int) := by
          rw [hM]
          split <;> omega
        have HM := Aside0.mk hM
        have HREC : Aside0 (∀ W1, Only (· = G) wr W1 → (∃ cs2, W1.heap[G]? = some (.cells cs2 2 (0, 0)) ∧ cs2.size = n ∧ ∀ j, j < now.length + 1 → cs2[j]? = some (.int .i64 ((now ++ [(i : Int)]).getD j 0))) → Calls Try.prog 113 #[.slice (some ⟨G, 0, none⟩) (now.length + 1) n, .int .i64 M, .pointer (some ⟨p, 0, none⟩), .pointer (some ⟨p + 1, 0, none⟩), .pointer (some ⟨p + 2, 0, none⟩)] W1 fun e W2 => e = .returned (.tuple #[]) ∧ PBox n D caps G p W2 ∧ Inv G (runP st s' (parts d (now ++ [(i : Int)]) M)) W2 ∧ Only (fun b => b = G ∨ b < B0) W W2 ∧ ∃ cs', W2.heap[G]? = some (.cells cs' 2 (0, 0)) ∧ cs'.size = n ∧ (∀ j, j < now.length → cs'[j]? = some (.int .i64 (now.getD j 0)))) := ⟨fun W1 h1 ⟨cs2, h2, h3, h4⟩ => by
          have hl := HL.out.1
          have := HIH.out (now ++ [(i : Int)]) M s' W1 cs2 (by simp; omega) (by have := HL.out.2.1; simp; omega) (fun x hx => by
            rcases List.mem_append.1 hx with hx | hx
            · exact HL.out.2.2 x hx
            · have := HL.out.2.1; rw [List.mem_singleton.1 hx]; omega) (HP.out.1.only (h1.mono (fun _ h => .inl h)) hp) h2 h3 (by simpa using h4) (hC.out.stays G s' wr W1 (by have := HP.out.1.pG; omega) HP.out.2.1 h1)
          rw [List.length_append] at this
          refine this.mono fun e W2 ⟨g1, g2, g3, cs3, g4, g5, g6⟩ => ?_
          have g7 := (h1.mono (S' := fun b => b = G ∨ b < B0) (fun _ h => .inl h)).trans g3
          refine ⟨g1, HP.out.1.only g7 hp, g2, HP.out.2.2.1.trans g7, cs3, g4, g5, fun j hj => ?_⟩
          rw [g6 j (by simp; omega)]
          simp [List.getD_eq_getElem?_getD, List.getElem?_append_left hj]⟩
        have HREST : Aside0 (runP st s (parts (d + 1) now many) = runP st (runP st s' (parts d (now ++ [(i : Int)]) M)) (partRest d now many (i + 1))) := ⟨by
          rw [HR.out, partRest_step c3, runP_append, hM]⟩
        have HIN : Aside0 (i ≤ many) := ⟨c3⟩
        clear c3 hii hiz hcs1 hnG hM
        go_wp2
        go_region_law (first | (go_simp; go_at_call 113; refine (HREC.out _ ?_ ?_).mono ?_; (exact (Only.set (S := (· = G)) ((Only.refl _ wr).alloc _) rfl _ _).drew); (exact pre_step_drew HCS.out (by have := HL.out.1; omega) (blk_alloc HCS.out.1 _)); (rintro e w2 ⟨rfl, hp2⟩; have HP2 := Aside0.mk hp2; clear hp2)))
        all_goals
          go_wp2
          go_roundg (gk - 1)
          case measure => have := HK.out; have := HIN.out; omega
          case rel => exact ⟨i + 1, _, by first | rfl | (simp; done), ⟨by have := HK.out; have := HIN.out; omega⟩, HREST, HP2⟩
      · have c3b : decide ((i : Int) < (many : Int) + 1) = false := decide_eq_false (by omega)
        have c3c : decide ((i : Int) < ((many + 1 : Nat) : Int)) = false := decide_eq_false (by omega)
        have c3n : decide (i < many + 1) = false := decide_eq_false (by omega)
        have HE : Aside0 (runP st s (parts (d + 1) now many) = s') := ⟨by rw [HR.out, partRest_end (by omega)]; rfl⟩
        clear c3
        go_wp2
        go_end0
        exact ⟨rfl, by rw [HE.out]; exact HP.out.2.1, HP.out.2.2.1, HP.out.2.2.2⟩
set_option maxHeartbeats 4000000 in
set_option maxRecDepth 100000 in
theorem impl_partings.calls {σ : Type} {n D : Nat} {caps : Array Value} {st : σ → List Int → Int → σ} {Inv : Nat → σ → World → Prop} (w : World) (C : Cp σ n w.heap.size D caps st Inv) (hn : n ≤ 1000) (s : σ)
    (hI : ∀ G W, w.heap.size ≤ G → Below w.heap.size w W → Inv G s W) :
    Calls Try.prog 101 #[.int .i64 n, .func (.func D) #[] caps] w fun e w' => e = .returned (.tuple #[]) ∧ ∃ G, w.heap.size ≤ G ∧ Inv G (runP st s (parts n [] 0)) w' := by
  have hmf : ∀ (fn : Fn) (first cap : Array Value) (w : World), (Instr.makeFunc fn first cap).run Try.prog w = .ok (.func fn first cap) w := fun _ _ _ _ => rfl
  have hmk := make_cap n (by omega)
  have HGO : Aside0 (Calls Try.prog 113 #[.slice (some ⟨w.heap.size + 1 + 1 + 1, 0, none⟩) 0 n, .int .i64 0, .pointer (some ⟨w.heap.size, 0, none⟩), .pointer (some ⟨w.heap.size + 1, 0, none⟩), .pointer (some ⟨w.heap.size + 1 + 1, 0, none⟩)]
      (((((w.alloc (.cells #[.int .i64 n] 3)).alloc (.cells #[.func (.func D) #[] caps] 86)).alloc (.cells #[.func (.func 113) #[] #[.pointer (some ⟨w.heap.size, 0, none⟩), .pointer (some ⟨w.heap.size + 1, 0, none⟩), .pointer (some ⟨w.heap.size + 1 + 1, 0, none⟩)]] 86)).alloc (.cells (madeCells #[.int .i64 0] n) 2)).drew)
      fun e w' => e = .returned (.tuple #[]) ∧ Inv (w.heap.size + 1 + 1 + 1) (runP st s (parts n [] 0)) w') := ⟨by
    have hf := four_new w (.cells #[.int .i64 n] 3) (.cells #[.func (.func D) #[] caps] 86) (.cells #[.func (.func 113) #[] #[.pointer (some ⟨w.heap.size, 0, none⟩), .pointer (some ⟨w.heap.size + 1, 0, none⟩), .pointer (some ⟨w.heap.size + 1 + 1, 0, none⟩)]] 86) (.cells (madeCells #[.int .i64 0] n) 2)
    have hb : Below w.heap.size w ((((w.alloc (.cells #[.int .i64 n] 3)).alloc (.cells #[.func (.func D) #[] caps] 86)).alloc (.cells #[.func (.func 113) #[] #[.pointer (some ⟨w.heap.size, 0, none⟩), .pointer (some ⟨w.heap.size + 1, 0, none⟩), .pointer (some ⟨w.heap.size + 1 + 1, 0, none⟩)]] 86)).alloc (.cells (madeCells #[.int .i64 0] n) 2)) := below_alloc (below_alloc (below_alloc (below_alloc (Below.refl _ _) _) _) _) _
    have := partings1_calls C hn (w.heap.size + 1 + 1 + 1) w.heap.size (Nat.le_refl _) n [] 0 s _ _ (by simp) (by simp) (by simp) ⟨blk_drew hf.1, blk_drew hf.2.1, blk_drew hf.2.2.1, by omega⟩ (blk_drew hf.2.2.2) (size_madeCells _ _) (by simp) (hI _ _ (by omega) (below_drew hb))
    exact this.mono fun e w' h => ⟨h.1, h.2.1⟩⟩
  clear C hI
  go_enter Try.func101, Try.ntmps101
  go_wp2
  go_region_law (first | (go_simp; go_at_call 113; refine HGO.out.mono ?_; (rintro e w2 ⟨rfl, hp2⟩; have HP2 := Aside0.mk hp2; clear hp2)))
  all_goals go_wp2
  all_goals (go_end0; exact ⟨rfl, w.heap.size + 1 + 1 + 1, by omega, HP2.out⟩)

/-! ### impl_bestRafts: function 66: this session's own text -/
theorem enters_any {P : Program} {f : FuncId} {fn : Func} {c : Code} (hf : P.funcs[f]? = some fn) (hname : (fn.name == "runtime.NumGoroutine") = false) (hb : fn.body = some c) (args : Array Value) (w : World) : (callFunc f args).run P w = .ok (.enter f args) w := by
  have h1 : fn.name ≠ "runtime.NumGoroutine" := by simpa using hname
  simp [callFunc, hf, h1, hb, mark]

/-- The code of hulls and how deep rafts may be. -/
def deepC (l : List S59) (deep : Int) : Int := if codeH l = 0 then (if 1 ≤ deep ∧ deep ≤ 400 then 0 else 2) else codeH l
theorem deepC_ok {l : List S59} {deep : Int} (h : deepC l deep = 0) : codeH l = 0 ∧ 1 ≤ deep ∧ deep ≤ 400 := by
  unfold deepC at h
  split at h
  · split at h
    · rename_i h1 h2; exact ⟨h1, h2⟩
    · cases h
  · rename_i h1; exact absurd h h1
theorem deepCode_is (l : List S59) (deep : Int) (hl : l.length ≤ 1048576) (k : Nat) (hk : l.length < k) : impl_deepCode.f k l deep = some (deepC l deep) := by
  unfold impl_deepCode.f deepC
  rw [hullsCode_is l (by omega) k hk]
  simp only [Option.bind_some]
  by_cases hc : codeH l = 0
  · rw [if_pos hc, if_pos hc]
    repeat' split
    all_goals first | rfl | (exfalso; omega)
  · rw [if_neg hc, if_neg hc]

theorem own_step {W W' : World} {B : Nat} {v : Value} {xs : List Int} (h : Kd.R (Kd.int .i64) 2 W B (fun _ => True) v xs) (hm : ∀ k, B ≤ k → k < W.heap.size → W'.heap[k]? = W.heap[k]?) : Kd.R (Kd.int .i64) 2 W' B (fun _ => True) v xs :=
  Kd.R_mono (Kd.R_step (Kd.R_bound h) (fun k hk hlt => hm k hk.2.1 hlt)) (fun _ _ => trivial)
theorem own_only {S : Nat → Prop} {W W' : World} {B : Nat} {v : Value} {xs : List Int} (h : Kd.R (Kd.int .i64) 2 W B (fun _ => True) v xs) (k : Only S W W') (hs : ∀ i, S i → i < B) : Kd.R (Kd.int .i64) 2 W' B (fun _ => True) v xs :=
  own_step h (fun i hi hlt => k.block i hlt (fun g => by have := hs i g; omega))

/-- A function value that tells what a parting costs. -/
structure Co (w0 : World) (n D : Nat) (caps : Array Value) (cost : List Int → Int → Int) : Prop where
  enters : ∀ (args : Array Value) (w : World), (callFunc D args).run Try.prog w = .ok (.enter D args) w
  called : ∀ W v o (m : Nat), Below w0.heap.size w0 W → (∃ B, Kd.R (Kd.int .i64) 2 W B (fun _ => True) v o) → o.length = n → (∀ x ∈ o, 0 ≤ x ∧ x < n) → m ≤ n →
    Calls Try.prog D (#[v, .int .i64 m] ++ caps) W fun e W' => e = .returned (.int .i64 (cost o m)) ∧ Below W.heap.size W W'
def bestSt (l : List S59) (deep : Int) (cost : List Int → Int → Int) (s : List Int × Int) (o : List Int) (m : Int) : List Int × Int := if areH l deep o = true then (if s.2 < 0 ∨ cost o m < s.2 then (o, cost o m) else s) else s
def bestRun (l : List S59) (deep : Int) (cost : List Int → Int → Int) : List Int × Int := runP (bestSt l deep cost) ([], -1) (parts l.length [] 0)
def bestR (l : List S59) (deep : Int) (cost : List Int → Int → Int) : List Int × Int × Int := if deepC l deep = 0 then (if (bestRun l deep cost).2 < 0 then ([], 0, 6) else ((bestRun l deep cost).1, (bestRun l deep cost).2, 0)) else ([], 0, deepC l deep)
/-- The state of the search in memory: the variables of the list, the depth, the function, the least and the best. -/
def BestInv (w0 : World) (A0 : Option Addr) (c0 : Nat) (l0 : List S59) (deep : Int) (D : Nat) (caps : Array Value) (p q : Nat) (G : Nat) (s : List Int × Int) (W : World) : Prop :=
  Below w0.heap.size w0 W ∧ W.heap[p]? = some (.cells #[.slice A0 l0.length c0] 26 (0, 0)) ∧ W.heap[p + 1]? = some (.cells #[.int .i64 deep] 2 (0, 0)) ∧ W.heap[p + 2]? = some (.cells #[.func (.func D) #[] caps] 78 (0, 0)) ∧
    W.heap[q + 1]? = some (.cells #[.int .i64 s.2] 2 (0, 0)) ∧ ∃ v, W.heap[q]? = some (.cells #[v] 30 (0, 0)) ∧ Kd.R (Kd.int .i64) 2 W (G + 1) (fun _ => True) v s.1
set_option maxHeartbeats 4000000 in
set_option maxRecDepth 100000 in
theorem best_cb (w0 : World) (A0 : Option Addr) (c0 : Nat) (l0 : List S59) (deep : Int) (D : Nat) (caps : Array Value) (cost : List Int → Int → Int) (hco : Co w0 l0.length D caps cost) (hr0 : Kd.C k59 w0 A0 l0.length l0) (hc0 : l0.length ≤ c0) (hv : ∀ x ∈ l0, vh x = true) (h7 : l0.length ≤ 7) (p q B0 : Nat) (hL : w0.heap.size ≤ p) (hq : p + 2 < q) (hB : q + 1 < B0) :
    Cp (List Int × Int) l0.length B0 102 #[.pointer (some ⟨p, 0, none⟩), .pointer (some ⟨p + 1, 0, none⟩), .pointer (some ⟨p + 2, 0, none⟩), .pointer (some ⟨q + 1, 0, none⟩), .pointer (some ⟨q, 0, none⟩)] (bestSt l0 deep cost) (BestInv w0 A0 c0 l0 deep D caps p q) where
  enters := enters_any Try.func102 (by kernel_rfl) rfl
  stays := by
    intro G s W W' hG ⟨h1, h2, h3, h4, h5, v, h6, h8⟩ hO
    exact ⟨Only.below h1 hO h1.size (fun i hi => by subst hi; omega), hO.blk h2 (fun e => by omega), hO.blk h3 (fun e => by omega), hO.blk h4 (fun e => by omega), hO.blk h5 (fun e => by omega), v, hO.blk h6 (fun e => by omega), own_only h8 hO (fun i hi => by subst hi; omega)⟩
  called := by
    intro G s W v o m hG hGl hI hR ho hin hm
    obtain ⟨h1, h2, h3, h4, h5, vo, h6, h8⟩ := hI
    have hRk := hR
    obtain ⟨A1, c1, rfl, hc1, hr1⟩ := Kd.R_reads hR
    have har : Aside0 (∀ W1, Below W.heap.size W W1 → Calls Try.prog 63 #[.slice A0 l0.length c0, .slice A1 o.length c1, .int .i64 deep] W1 fun e w' => e = .returned (.bool (areH l0 deep o)) ∧ Below W1.heap.size W1 w') := ⟨fun W1 hb =>
      impl_areRafts.calls A0 c0 l0 A1 c1 o deep _ W1 (Kd.C_below (Kd.C_below hr0 h1) hb) hc0 (Kd.C_below hr1 hb) hc1 (by unfold impl_areRafts.f; rw [if_pos ⟨by omega, by omega, fun x hx => by have := hin x hx; omega, hv⟩])⟩
    have hof : Aside0 (∀ W1, Below W.heap.size W W1 → Calls Try.prog D (#[.slice A1 o.length c1, .int .i64 m] ++ caps) W1 fun e w' => e = .returned (.int .i64 (cost o m)) ∧ Below W1.heap.size W1 w') := ⟨fun W1 hb =>
      hco.called W1 _ o m (h1.trans (hb.mono h1.size)) ⟨_, Kd.R_below hRk hb⟩ ho hin hm⟩
    have hent := hco.enters
    have hpc := blk_cell h2 0
    have hdc := blk_cell h3 0
    have H4 := Aside0.mk h4
    have H5 := Aside0.mk h5
    have H6 := Aside0.mk h6
    have HW := Aside0.mk (And.intro h1 (And.intro h2 (And.intro h3 (And.intro h4 h5))))
    have HK := Aside0.mk (And.intro hRk (And.intro h8 hG))
    have HB := Aside0.mk (Below.refl W.heap.size W)
    have HN : Aside0 (∀ w3 : World, Below W.heap.size W w3 → BestInv w0 A0 c0 l0 deep D caps p q G s w3 ∧ Only (· < B0) W w3) := ⟨fun w3 hb =>
      ⟨⟨h1.trans (hb.mono h1.size), blk_below h2 hb, blk_below h3 hb, blk_below h4 hb, blk_below h5 hb, vo, blk_below h6 hb, own_only h8 (Only.of_below (S := fun _ => False) hb) (fun i hi => hi.elim)⟩, Only.of_below hb⟩⟩
    clear h1 h2 h3 h4 h5 h6 h8 hR hRk hr1 hc1 hc0 hr0 hin ho hG hGl hco hm
    by_cases d1 : areH l0 deep o = true
    · rw [d1] at har
      by_cases c2 : s.2 < 0 ∨ cost o m < s.2
      · have HST : Aside0 (bestSt l0 deep cost s o m = (o, cost o m)) := ⟨by unfold bestSt; rw [if_pos d1, if_pos c2]⟩
        have c3 : ∃ b3, decide (s.2 < 0) = b3 ∧ (b3 = false → decide (cost o m < s.2) = true) := ⟨_, rfl, fun h => decide_eq_true (by have := of_decide_eq_false h; omega)⟩
        obtain ⟨b3, c3b, c4⟩ := c3
        have HF : Aside0 (∀ w3 : World, Below W.heap.size W w3 → BestInv w0 A0 c0 l0 deep D caps p q G (o, cost o m) ((w3.setCell ⟨q, 0, none⟩ (.slice A1 o.length c1)).setCell ⟨q + 1, 0, none⟩ (.int .i64 (cost o m))) ∧ Only (· < B0) W ((w3.setCell ⟨q, 0, none⟩ (.slice A1 o.length c1)).setCell ⟨q + 1, 0, none⟩ (.int .i64 (cost o m)))) := ⟨fun w3 hb => by
          have hO : Only (· < B0) W ((w3.setCell ⟨q, 0, none⟩ (.slice A1 o.length c1)).setCell ⟨q + 1, 0, none⟩ (.int .i64 (cost o m))) := Only.set (S := (· < B0)) (Only.set (S := (· < B0)) (Only.of_below hb) (show q < B0 by omega) 0 _) (show q + 1 < B0 by omega) 0 _
          have hp : ∀ {g t : Nat} {cs : Array Value}, W.heap[g]? = some (.cells cs t (0, 0)) → g ≠ q → g ≠ q + 1 → ((w3.setCell ⟨q, 0, none⟩ (.slice A1 o.length c1)).setCell ⟨q + 1, 0, none⟩ (.int .i64 (cost o m))).heap[g]? = some (.cells cs t (0, 0)) := fun hg e1 e2 => blk_far (p := ⟨q + 1, 0, none⟩) (blk_far (p := ⟨q, 0, none⟩) (blk_below hg hb) e1 _) e2 _
          exact ⟨⟨((HW.out.1.trans (hb.mono HW.out.1.size)).setCell (show w0.heap.size ≤ q by omega) _).setCell (show w0.heap.size ≤ q + 1 by omega) _, hp HW.out.2.1 (by omega) (by omega), hp HW.out.2.2.1 (by omega) (by omega), hp HW.out.2.2.2.1 (by omega) (by omega), blk_set (blk_far (blk_below H5.out hb) (show q + 1 ≠ q by omega) _) 0 _, _, blk_far (blk_set (blk_below H6.out hb) 0 _) (show q ≠ q + 1 by omega) _, own_only HK.out.1 hO (fun i hi => by have := HK.out.2.2; omega)⟩, hO⟩⟩
        clear d1 c2
        cases b3 with
        | true =>
          clear c4
          go_enter Try.func102, Try.ntmps102
          go_wp2_with (first | (go_at_call 63; refine (har.out _ ?_).mono ?_; (exact HB.out); rintro e w1 ⟨rfl, hb1⟩; have hfc := blk_cell (blk_below H4.out hb1) 0; have HB1 := Aside0.mk hb1; clear hb1) | (refine (hof.out _ HB1.out).mono ?_; rintro e w2 ⟨rfl, hb2⟩; have HB2 := Aside0.mk (HB1.out.trans (hb2.mono HB1.out.size)); clear hb2; have h5b := blk_below H5.out HB2.out; have h5c := blk_cell h5b 0; have h5f := blk_frozen h5b 0; have h6b := blk_below H6.out HB2.out; have h6c := blk_cell h6b 0; have h6f := blk_frozen h6b 0; clear h5b h6b))
          go_end0
          exact ⟨rfl, by rw [HST.out]; exact (HF.out _ HB2.out).1, (HF.out _ HB2.out).2⟩
        | false =>
          have c4b := c4 rfl
          clear c4
          go_enter Try.func102, Try.ntmps102
          go_wp2_with (first | (go_at_call 63; refine (har.out _ ?_).mono ?_; (exact HB.out); rintro e w1 ⟨rfl, hb1⟩; have hfc := blk_cell (blk_below H4.out hb1) 0; have HB1 := Aside0.mk hb1; clear hb1) | (refine (hof.out _ HB1.out).mono ?_; rintro e w2 ⟨rfl, hb2⟩; have HB2 := Aside0.mk (HB1.out.trans (hb2.mono HB1.out.size)); clear hb2; have h5b := blk_below H5.out HB2.out; have h5c := blk_cell h5b 0; have h5f := blk_frozen h5b 0; have h6b := blk_below H6.out HB2.out; have h6c := blk_cell h6b 0; have h6f := blk_frozen h6b 0; clear h5b h6b))
          go_end0
          exact ⟨rfl, by rw [HST.out]; exact (HF.out _ HB2.out).1, (HF.out _ HB2.out).2⟩
      · have HST : Aside0 (bestSt l0 deep cost s o m = s) := ⟨by unfold bestSt; rw [if_pos d1, if_neg c2]⟩
        have c3b : decide (s.2 < 0) = false := decide_eq_false (by omega)
        have c4b : decide (cost o m < s.2) = false := decide_eq_false (by omega)
        clear d1 c2
        go_enter Try.func102, Try.ntmps102
        go_wp2_with (first | (go_at_call 63; refine (har.out _ ?_).mono ?_; (exact HB.out); rintro e w1 ⟨rfl, hb1⟩; have hfc := blk_cell (blk_below H4.out hb1) 0; have HB1 := Aside0.mk hb1; clear hb1) | (refine (hof.out _ HB1.out).mono ?_; rintro e w2 ⟨rfl, hb2⟩; have HB2 := Aside0.mk (HB1.out.trans (hb2.mono HB1.out.size)); clear hb2; have h5b := blk_below H5.out HB2.out; have h5c := blk_cell h5b 0; clear h5b))
        go_end0
        exact ⟨rfl, by rw [HST.out]; exact (HN.out _ HB2.out).1, (HN.out _ HB2.out).2⟩
    · have c1' : areH l0 deep o = false := by simpa using d1
      rw [c1'] at har
      have HST : Aside0 (bestSt l0 deep cost s o m = s) := ⟨by unfold bestSt; rw [if_neg d1]⟩
      clear d1 c1'
      go_enter Try.func102, Try.ntmps102
      go_wp2_with (first | (go_at_call 63; refine (har.out _ ?_).mono ?_; (exact HB.out); rintro e w1 ⟨rfl, hb1⟩; have HB1 := Aside0.mk hb1; clear hb1))
      exact bodyPost_ret (v := .tuple #[]) (by simp [results, Try.results102, go_sem]) rfl ⟨rfl, by rw [HST.out]; exact (HN.out _ HB1.out).1, (HN.out _ HB1.out).2⟩
theorem three_new (w : World) (A B C : Obj) : (((w.alloc A).alloc B).alloc C).heap[w.heap.size]? = some A ∧ (((w.alloc A).alloc B).alloc C).heap[w.heap.size + 1]? = some B ∧ (((w.alloc A).alloc B).alloc C).heap[w.heap.size + 2]? = some C ∧ (((w.alloc A).alloc B).alloc C).heap.size = w.heap.size + 3 := by
  have s1 : (w.alloc A).heap.size = w.heap.size + 1 := by simp
  have s2 : ((w.alloc A).alloc B).heap.size = w.heap.size + 2 := by simp
  have h1 := blk_new (w.alloc A) B
  have h2 := blk_new ((w.alloc A).alloc B) C
  rw [s1] at h1
  rw [s2] at h2
  exact ⟨blk_alloc (blk_alloc (blk_new w A) B) C, blk_alloc h1 C, h2, by simp⟩
set_option maxHeartbeats 4000000 in
set_option maxRecDepth 100000 in
theorem impl_bestRafts.calls (A0 : Option Addr) (c0 : Nat) (l0 : List (S59)) (a1 : Int) (D : Nat) (caps : Array Value) (cost : List Int → Int → Int) (r1 : List Int) (r2 r3 : Int) (w : World) (hco : deepC l0 a1 = 0 → Co w l0.length D caps cost) (hr0 : Kd.C k59 w A0 l0.length l0) (hc0 : l0.length ≤ c0) (hl : l0.length ≤ 1048576) (h : bestR l0 a1 cost = (r1, r2, r3)) :
    Calls Try.prog 66 #[.slice A0 l0.length c0, .int .i64 a1, .func (.func D) #[] caps] w fun e w' => ∃ v0_ : Value, e = .returned (.tuple #[v0_, .int .i64 r2, .int .i64 r3]) ∧ Kd.R (Kd.int .i64) 2 w' w.heap.size (fun _ => True) v0_ r1 ∧ Below w.heap.size w w' := by
  have hcode : deepC l0 a1 = 0 ∨ deepC l0 a1 ≠ 0 := by omega
  have hd : Aside0 (∀ W1, Below w.heap.size w W1 → Calls Try.prog 62 #[.slice A0 l0.length c0, .int .i64 a1] W1 fun e w' => e = .returned (.int .i64 (deepC l0 a1)) ∧ Below W1.heap.size W1 w') := ⟨fun W1 hb =>
    impl_deepCode.calls (l0.length + 1) A0 c0 l0 a1 _ W1 (Kd.C_below hr0 hb) hc0 (deepCode_is l0 a1 hl _ (by omega))⟩
  have HB := Aside0.mk (Below.refl w.heap.size w)
  have h3 := three_new w (.cells #[.slice A0 l0.length c0] 26) (.cells #[.int .i64 a1] 2) (.cells #[.func (.func D) #[] caps] 78)
  have hp0 := blk_cell h3.1 0
  have hp1 := blk_cell h3.2.1 0
  have H3 := Aside0.mk h3
  clear h3
  unfold bestR at h
  rcases hcode with hc | hc
  · have hok := codeH_ok (deepC_ok hc).1
    rw [if_pos hc] at h
    obtain ⟨b, hbf⟩ : ∃ b, b = decide ((bestRun l0 a1 cost).2 < 0) := ⟨_, rfl⟩
    have hpa : Aside0 (∀ w1, Below (w.heap.size + 3) (((w.alloc (.cells #[.slice A0 l0.length c0] 26)).alloc (.cells #[.int .i64 a1] 2)).alloc (.cells #[.func (.func D) #[] caps] 78)) w1 → Calls Try.prog 101 #[.int .i64 l0.length, .func (.func 102) #[] #[.pointer (some ⟨w.heap.size, 0, none⟩), .pointer (some ⟨w.heap.size + 1, 0, none⟩), .pointer (some ⟨w.heap.size + 2, 0, none⟩), .pointer (some ⟨w1.heap.size + 1, 0, none⟩), .pointer (some ⟨w1.heap.size, 0, none⟩)]] ((w1.alloc (.cells #[.slice none 0 0] 30)).alloc (.cells #[.int .i64 (-1)] 2)) fun e w' => e = .returned (.tuple #[]) ∧ Below w.heap.size w w' ∧ w'.cell? ⟨w1.heap.size + 1, 0, none⟩ = some (.int .i64 (bestRun l0 a1 cost).2) ∧ ∃ v, w'.cell? ⟨w1.heap.size, 0, none⟩ = some v ∧ Kd.R (Kd.int .i64) 2 w' w.heap.size (fun _ => True) v (bestRun l0 a1 cost).1) := ⟨fun w1 hb => by
      have hs : w.heap.size + 3 ≤ w1.heap.size := by have := hb.size; rw [H3.out.2.2.2] at this; exact this
      have hL := (hb.block _ (by omega)).trans H3.out.1
      have hD := (hb.block _ (by omega)).trans H3.out.2.1
      have hF := (hb.block _ (by omega)).trans H3.out.2.2.1
      have s1 : (w1.alloc (.cells #[.slice none 0 0] 30)).heap.size = w1.heap.size + 1 := by simp
      have C := best_cb w A0 c0 l0 a1 D caps cost (hco hc) hr0 hc0 hok.2 hok.1 w.heap.size w1.heap.size ((w1.alloc (.cells #[.slice none 0 0] 30)).alloc (.cells #[.int .i64 (-1)] 2)).heap.size (Nat.le_refl _) (by omega) (by simp)
      have hw1 : Below w.heap.size w w1 := (below_alloc (below_alloc (below_alloc (Below.refl _ _) _) _) _).trans (hb.mono (by omega))
      have hO : ((w1.alloc (.cells #[.slice none 0 0] 30)).alloc (.cells #[.int .i64 (-1)] 2)).heap[w1.heap.size]? = some (.cells #[.slice none 0 0] 30 (0, 0)) := blk_alloc (blk_new w1 _) _
      have hM : ((w1.alloc (.cells #[.slice none 0 0] 30)).alloc (.cells #[.int .i64 (-1)] 2)).heap[w1.heap.size + 1]? = some (.cells #[.int .i64 (-1)] 2 (0, 0)) := by
        have := blk_new (w1.alloc (.cells #[.slice none 0 0] 30)) (.cells #[.int .i64 (-1)] 2)
        rw [s1] at this
        exact this
      have := impl_partings.calls ((w1.alloc (.cells #[.slice none 0 0] 30)).alloc (.cells #[.int .i64 (-1)] 2)) C (by omega) ([], -1) (fun G W hG hW => ⟨((hw1.alloc hw1.size _).alloc (by simp; have := hw1.size; omega) _).trans (hW.mono (by have := hw1.size; simp; omega)), blk_below (blk_alloc (blk_alloc hL _) _) hW, blk_below (blk_alloc (blk_alloc hD _) _) hW, blk_below (blk_alloc (blk_alloc hF _) _) hW, blk_below hM hW, _, blk_below hO hW, Kd.R_nil _ _ _ _ _⟩)
      exact this.mono fun e w' ⟨h1, G, hG, h2⟩ => ⟨h1, h2.1, blk_cell h2.2.2.2.2.1 0, by
        obtain ⟨v, h3, h4⟩ := h2.2.2.2.2.2
        have hG' : w.heap.size ≤ G := by have := hw1.size; simp at hG; omega
        exact ⟨v, blk_cell h3 0, Kd.R_lower h4 (by omega)⟩⟩⟩
    rw [hc] at hd
    have HH : Aside0 ((if b = true then (([] : List Int), (0 : Int), (6 : Int)) else ((bestRun l0 a1 cost).1, (bestRun l0 a1 cost).2, 0)) = (r1, r2, r3)) := ⟨by
      rw [← h, hbf]
      by_cases g : (bestRun l0 a1 cost).2 < 0
      · rw [if_pos g, if_pos (decide_eq_true g)]
      · rw [if_neg g, if_neg (by simpa using g)]⟩
    have hbd : decide ((bestRun l0 a1 cost).2 < 0) = b := hbf.symm
    clear hr0 hc0 hok hc hl h hbf hco
    cases b with
    | true =>
      have HH2 : Aside0 (([] : List Int) = r1 ∧ (0 : Int) = r2 ∧ (6 : Int) = r3) := ⟨by have := HH.out; rw [if_pos rfl] at this; exact ⟨congrArg Prod.fst this, congrArg (·.2.1) this, congrArg (·.2.2) this⟩⟩
      go_enter Try.func66, Try.ntmps66
      go_wp2_with (first | (go_at_call 62; refine (hd.out _ ?_).mono ?_; (exact below_alloc (below_alloc (below_alloc HB.out _) _) _); rintro e w1 ⟨rfl, hb1⟩; have hL1 : ∀ o o', ((w1.alloc o).alloc o').cell? ⟨w.heap.size, 0, none⟩ = some (.slice A0 l0.length c0) := (fun o o' => blk_cell (blk_alloc (blk_alloc ((hb1.block w.heap.size (by simp; omega)).trans H3.out.1) o) o') 0); have HB1 : Aside0 (Below (w.heap.size + 3) (((w.alloc (.cells #[.slice A0 l0.length c0] 26)).alloc (.cells #[.int .i64 a1] 2)).alloc (.cells #[.func (.func D) #[] caps] 78)) w1) := ⟨hb1.mono (by simp)⟩; clear hb1) | (go_at_call 101; refine (hpa.out _ HB1.out).mono ?_; rintro e w2 ⟨rfl, hb2, hcm, vo, hco2, hro⟩; have HB2 := Aside0.mk hb2; have HRO := Aside0.mk hro; clear hb2 hro))
      exact bodyPost_ret (v := .tuple #[.slice none 0 0, .int .i64 0, .int .i64 6]) (by simp [results, Try.results66, go_sem]) rfl ⟨_, by rw [← HH2.out.2.1, ← HH2.out.2.2], by rw [← HH2.out.1]; exact Kd.R_nil _ _ _ _ _, HB2.out⟩
    | false =>
      have HH2 : Aside0 ((bestRun l0 a1 cost).1 = r1 ∧ (bestRun l0 a1 cost).2 = r2 ∧ (0 : Int) = r3) := ⟨by have := HH.out; rw [if_neg (by simp)] at this; exact ⟨congrArg Prod.fst this, congrArg (·.2.1) this, congrArg (·.2.2) this⟩⟩
      go_enter Try.func66, Try.ntmps66
      go_wp2_with (first | (go_at_call 62; refine (hd.out _ ?_).mono ?_; (exact below_alloc (below_alloc (below_alloc HB.out _) _) _); rintro e w1 ⟨rfl, hb1⟩; have hL1 : ∀ o o', ((w1.alloc o).alloc o').cell? ⟨w.heap.size, 0, none⟩ = some (.slice A0 l0.length c0) := (fun o o' => blk_cell (blk_alloc (blk_alloc ((hb1.block w.heap.size (by simp; omega)).trans H3.out.1) o) o') 0); have HB1 : Aside0 (Below (w.heap.size + 3) (((w.alloc (.cells #[.slice A0 l0.length c0] 26)).alloc (.cells #[.int .i64 a1] 2)).alloc (.cells #[.func (.func D) #[] caps] 78)) w1) := ⟨hb1.mono (by simp)⟩; clear hb1) | (go_at_call 101; refine (hpa.out _ HB1.out).mono ?_; rintro e w2 ⟨rfl, hb2, hcm, vo, hco2, hro⟩; have HB2 := Aside0.mk hb2; have HRO := Aside0.mk hro; clear hb2 hro))
      go_region
      all_goals go_wp2
      all_goals exact bodyPost_ret (v := .tuple #[vo, .int .i64 (bestRun l0 a1 cost).2, .int .i64 0]) (by simp [results, Try.results66, go_sem]) rfl ⟨_, by rw [← HH2.out.2.1, ← HH2.out.2.2], by rw [← HH2.out.1]; exact Kd.R_drew HRO.out, below_drew HB2.out⟩
  · rw [if_neg hc] at h
    simp only [Prod.mk.injEq] at h
    obtain ⟨rfl, rfl, rfl⟩ := h
    have hcb : (deepC l0 a1 == 0) = false := beq_eq_false_iff_ne.mpr hc
    have hcb' : (deepC l0 a1 != 0) = true := bne_iff_ne.mpr hc
    clear hr0 hc0 hl hc hco
    go_enter Try.func66, Try.ntmps66
    go_wp2_with (first | (go_at_call 62; refine (hd.out _ ?_).mono ?_; (exact below_alloc (below_alloc (below_alloc HB.out _) _) _); rintro e w1 ⟨rfl, hb1⟩; have HB1 := Aside0.mk hb1; clear hb1))
    exact bodyPost_ret (v := .tuple #[.slice none 0 0, .int .i64 0, .int .i64 (deepC l0 a1)]) (by simp [results, Try.results66, go_sem]) rfl ⟨_, rfl, Kd.R_nil _ _ _ _ _, (below_alloc (below_alloc (below_alloc (Below.refl _ _) _) _) _).trans (HB1.out.mono (by simp; omega))⟩

/-! ### impl_ShortestQuay: function 31: this session's own text -/
def quayCost (l : List S59) (o : List Int) (_ : Int) : Int := quayTo l o 7

def impl_ShortestQuay.f (l0 : List S59) (a1 : Int) : Option (List Int × Int × Int) := if l0.length ≤ 1048576 then some (bestR l0 a1 (quayCost l0)) else none
set_option maxHeartbeats 2000000 in
set_option maxRecDepth 100000 in
theorem shortest_co (cost : List Int → Int → Int) (w : World) (A0 : Option Addr) (c0 : Nat) (l0 : List (S59)) (hr0 : Kd.C k59 w A0 l0.length l0) (hc0 : l0.length ≤ c0) (p : Nat) (hp : w.heap[p]? = some (.cells #[.slice A0 l0.length c0] 26 (0, 0))) (h7 : l0.length ≤ 7) (hv : ∀ x ∈ l0, vh x = true) (hcost : ∀ o m, cost o m = quayTo l0 o 7) : Co w l0.length 68 #[.pointer (some ⟨p, 0, none⟩)] cost where
  enters := enters_any Try.func68 (by kernel_rfl) rfl
  called := by
    intro W v o m hb ⟨B, hR⟩ ho hin hm
    obtain ⟨A1, c1, rfl, hc1, hr1⟩ := Kd.R_reads hR
    have hq := Aside0.mk (impl_quay.calls A0 c0 l0 A1 c1 o (cost o m) W (Kd.C_below hr0 hb) hc0 hr1 hc1 (by unfold impl_quay.f; rw [if_pos ⟨by omega, by omega, fun x hx => by have := hin x hx; omega, hv⟩, hcost]))
    have hpc := blk_cell (blk_below hp hb) 0
    clear hR hr0 hr1 hin hv hb hcost ho h7
    go_enter Try.func68, Try.ntmps68
    go_wp2_with (first | (go_at_call 58; refine hq.out.mono ?_; rintro e w1 ⟨rfl, hb1⟩; have HB1 := Aside0.mk hb1; clear hb1))
    go_ret
    exact ⟨by first | rfl | (simp; done), HB1.out⟩
set_option maxHeartbeats 2000000 in
set_option maxRecDepth 100000 in
theorem impl_ShortestQuay.calls (A0 : Option Addr) (c0 : Nat) (l0 : List (S59)) (a1 : Int) (r1 : List Int) (r2 r3 : Int) (w : World) (hr0 : Kd.C k59 w A0 l0.length l0) (hc0 : l0.length ≤ c0) (h : impl_ShortestQuay.f l0 a1 = some (r1, r2, r3)) :
    Calls Try.prog 31 #[.slice A0 l0.length c0, .int .i64 a1] w fun e w' => ∃ v0_ : Value, e = .returned (.tuple #[v0_, .int .i64 r2, .int .i64 r3]) ∧ Kd.R (Kd.int .i64) 2 w' w.heap.size (fun _ => True) v0_ r1 ∧ Below w.heap.size w w' := by
  unfold impl_ShortestQuay.f at h
  by_cases hl : l0.length ≤ 1048576
  · rw [if_pos hl] at h
    have hbr : Aside0 (Calls Try.prog 66 #[.slice A0 l0.length c0, .int .i64 a1, .func (.func 68) #[] #[.pointer (some ⟨w.heap.size, 0, none⟩)]] (w.alloc (.cells #[.slice A0 l0.length c0] 26)) fun e w' => ∃ v0_ : Value, e = .returned (.tuple #[v0_, .int .i64 r2, .int .i64 r3]) ∧ Kd.R (Kd.int .i64) 2 w' w.heap.size (fun _ => True) v0_ r1 ∧ Below w.heap.size w w') := ⟨by
      have hb := below_alloc (Below.refl w.heap.size w) (.cells #[.slice A0 l0.length c0] 26)
      have hr1 := Kd.C_below hr0 hb
      have hs : (w.alloc (.cells #[.slice A0 l0.length c0] 26)).heap.size = w.heap.size + 1 := by simp
      have := impl_bestRafts.calls A0 c0 l0 a1 68 #[.pointer (some ⟨w.heap.size, 0, none⟩)] _ r1 r2 r3 (w.alloc (.cells #[.slice A0 l0.length c0] 26)) (fun hc => shortest_co (quayCost l0) _ A0 c0 l0 hr1 hc0 w.heap.size (blk_new w _) (codeH_ok (deepC_ok hc).1).1 (codeH_ok (deepC_ok hc).1).2 (fun _ _ => rfl)) hr1 hc0 hl (Option.some.inj h)
      exact this.mono fun e w' ⟨v, h1, h2, h3⟩ => ⟨v, h1, Kd.R_lower h2 (by omega), hb.trans (h3.mono (by omega))⟩⟩
    clear h hl hr0 hc0
    go_enter Try.func31, Try.ntmps31
    go_wp2_with (first | (go_at_call 66; refine hbr.out.mono ?_; rintro e w1 ⟨v, rfl, hv, hb⟩; have HV := Aside0.mk (And.intro hv hb); clear hv hb))
    exact bodyPost_ret (v := .tuple #[v, .int .i64 r2, .int .i64 r3]) (by simp [results, Try.results31, go_sem]) rfl ⟨_, rfl, HV.out.1, HV.out.2⟩
  · rw [if_neg hl] at h
    cases h

end Go.Proofs.Ytpimdgkofgendaa.PFnExactShortestQuay
