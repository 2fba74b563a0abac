/- Printed by this session's plus.py out of the translation, some functions' texts being this session's own. -/
import Derived.Test.YtjcdgimldhodiaaPFnExactLeastMovesx0
import Derived.Test.YtjcdgimldhodiaaPFnExactLeastMovesx5
import Derived.Test.YtjcdgimldhodiaaPFnExactLeastMovesx6
namespace Go.Proofs.Ytjcdgimldhodiaa.PFnExactLeastMoves
open Go.RowKit Go.Proofs.YtjcdgimldhodiaaW.PrintWords Go.Proofs.YtjcdgimldhodiaaW.PrintLast Go.Proofs.YtjcdgimldhodiaaW.PrintMore
attribute [local go_sem] max2_int min2_int max_two min_two max_three min_three max_four min_four   -- for this text's walks alone
set_option linter.unusedVariables false
set_option linter.unusedSimpArgs false

/-! ### impl_orders: function 78: this session's own text -/
/-- W' is W but for the blocks that S tells, and for new ones. -/
structure Only (S : Nat → Prop) (W W' : World) : Prop where
  os : W'.os = W.os
  tape : W'.tape = W.tape
  output : W'.output = W.output
  size : W.heap.size ≤ W'.heap.size
  block : ∀ b, b < W.heap.size → ¬ S b → W'.heap[b]? = W.heap[b]?
theorem Only.refl (S : Nat → Prop) (W : World) : Only S W W := ⟨rfl, rfl, rfl, Nat.le_refl _, fun _ _ _ => rfl⟩
theorem Only.trans {S : Nat → Prop} {a b c : World} (h : Only S a b) (k : Only S b c) : Only S a c :=
  ⟨k.os.trans h.os, k.tape.trans h.tape, k.output.trans h.output, Nat.le_trans h.size k.size, fun i hi hs => (k.block i (Nat.lt_of_lt_of_le hi h.size) hs).trans (h.block i hi hs)⟩
theorem Only.mono {S S' : Nat → Prop} {a b : World} (h : Only S a b) (hs : ∀ i, S i → S' i) : Only S' a b := ⟨h.os, h.tape, h.output, h.size, fun i hi hn => h.block i hi (fun g => hn (hs i g))⟩
theorem Only.of_below {S : Nat → Prop} {a b : World} (h : Below a.heap.size a b) : Only S a b := ⟨h.os, h.tape, h.output, h.size, fun i hi _ => h.block i hi⟩
theorem Only.set {S : Nat → Prop} {a b : World} (h : Only S a b) {g : Nat} (hg : S g) (j : Nat) (v : Value) : Only S a (b.setCell ⟨g, j, none⟩ v) :=
  h.trans ⟨rfl, rfl, rfl, by simp [World.setCell], fun i hi hn => Below.heap_setCell _ _ _ _ (fun e => hn (by subst e; exact hg))⟩
theorem Only.alloc {S : Nat → Prop} {a b : World} (h : Only S a b) (o : Obj) : Only S a (b.alloc o) := h.trans (Only.of_below ((Below.refl _ _).alloc (Nat.le_refl _) o))
theorem Only.drewN {S : Nat → Prop} {a b : World} (h : Only S a b) (n : Nat) : Only S a (b.drewN n) := h.trans (Only.of_below (pw_below_drewN (Below.refl _ _) n))
theorem Only.drew {S : Nat → Prop} {a b : World} (h : Only S a b) : Only S a b.drew := h.trans (Only.of_below (below_drew (Below.refl _ _)))
theorem Only.blk {S : Nat → Prop} {a b : World} (h : Only S a b) {g : Nat} {o : Obj} (ho : a.heap[g]? = some o) (hg : ¬ S g) : b.heap[g]? = some o := (h.block g (blk_lt ho) hg).trans ho
theorem Only.below {S : Nat → Prop} {w a b : World} {B : Nat} (hb : Below B w a) (h : Only S a b) (hB : B ≤ a.heap.size) (hs : ∀ i, S i → B ≤ i) : Below B w b :=
  hb.trans ⟨h.os, h.tape, h.output, h.size, fun i hi => h.block i (by omega) (fun g => by have := hs i g; omega)⟩
theorem Only.to_below {S : Nat → Prop} {a b : World} (h : Only S a b) (hs : ∀ i, ¬ S i) : Below a.heap.size a b := ⟨h.os, h.tape, h.output, h.size, fun i hi => h.block i hi (hs i)⟩

/-- All orders of 0 .. n - 1 that go on from one that has been begun, d of them being left, the first ones first. -/
def exts (n : Nat) : Nat → List Int → List (List Int)
  | 0, now => [now]
  | d + 1, now => (List.range n).flatMap fun (i : Nat) => if now.contains (i : Int) then [] else exts n d (now ++ [(i : Int)])
/-- A function called for one order after the other, till it says no. -/
def runAll {σ : Type} (st : σ → List Int → σ × Bool) : σ → List (List Int) → σ × Bool
  | s, [] => (s, true)
  | s, o :: os => if (st s o).2 then runAll st (st s o).1 os else ((st s o).1, false)
theorem runAll_append {σ : Type} (st : σ → List Int → σ × Bool) : ∀ (a b : List (List Int)) (s : σ), runAll st s (a ++ b) = if (runAll st s a).2 then runAll st (runAll st s a).1 b else runAll st s a
  | [], b, s => by simp [runAll]
  | o :: a, b, s => by
    have ih := runAll_append st a b (st s o).1
    by_cases h : (st s o).2 = true
    · simp only [List.cons_append, runAll, h, if_true]
      exact ih
    · simp [runAll, h]

theorem cell_of_ints {w : World} {g t : Nat} {k : IntKind} {xs : List Int} (h : w.heap[g]? = some (.cells (xs.map (Value.int k)).toArray t (0, 0))) {i : Int} (hi : i.toNat < xs.length) : w.cell? ⟨g, i.toNat, none⟩ = some (.int k (rd xs i)) := by
  rw [blk_cell h]
  simp [rd, List.getD_eq_getElem?_getD, List.getElem?_eq_getElem hi]
theorem ints_put {w : World} {g t : Nat} {k : IntKind} {xs : List Int} (h : w.heap[g]? = some (.cells (xs.map (Value.int k)).toArray t (0, 0))) (i : Nat) (u : Int) : (w.setCell ⟨g, i, none⟩ (.int k u)).heap[g]? = some (.cells ((xs.set i u).map (Value.int k)).toArray t (0, 0)) :=
  blk_put h i _ (by simp [List.map_set])
theorem drop_rd {α : Type} {xs : List α} {i : Int} (d : α) (h0 : 0 ≤ i) (h : i < (xs.length : Int)) : xs.drop i.toNat = xs.getD i.toNat d :: xs.drop (i + 1).toNat := by
  rw [show (i + 1).toNat = i.toNat + 1 by omega, List.drop_eq_getElem_cons (by omega), List.getD_eq_getElem?_getD, List.getElem?_eq_getElem (by omega)]
  rfl
theorem w64_in {a : Int} (h0 : -9223372036854775808 ≤ a) (h1 : a ≤ 9223372036854775807) : wrap64 a = a := by unfold wrap64; omega
theorem wi64 {a : Int} (h0 : -9223372036854775808 ≤ a) (h1 : a ≤ 9223372036854775807) : IntKind.i64.wrap a = a := by
  have : IntKind.i64.wrap a = if a % 18446744073709551616 ≥ 9223372036854775808 then a % 18446744073709551616 - 18446744073709551616 else a % 18446744073709551616 := by
    simp [IntKind.wrap, IntKind.signed, IntKind.bits]
  rw [this]
  split <;> omega

theorem index64_l0 (l : List Int) (a : Int) (hl : l.length ≤ 1152921504606846976) : ∀ (d : Nat) (i : Int) (k : Nat), 0 ≤ i → i.toNat + d = l.length → d < k →
    ∃ r : Int, slices_Index_int64_int64.l0 k l a (l.length : Int) i = some r ∧ (r ≥ 0 ↔ (l.drop i.toNat).contains a = true) := by
  intro d
  induction d with
  | zero =>
    intro i k h0 hd hk
    obtain ⟨k, rfl⟩ : ∃ m, k = m + 1 := ⟨k - 1, by omega⟩
    refine ⟨-1, ?_, ?_⟩
    · simp only [slices_Index_int64_int64.l0]
      rw [if_neg (by omega)]
    · rw [List.drop_eq_nil_of_le (by omega)]
      simp
  | succ d ih =>
    intro i k h0 hd hk
    obtain ⟨k, rfl⟩ : ∃ m, k = m + 1 := ⟨k - 1, by omega⟩
    have hi : i < (l.length : Int) := by omega
    rw [drop_rd 0 h0 hi]
    simp only [slices_Index_int64_int64.l0]
    rw [if_pos hi, if_pos h0, if_pos hi, w64_in (by omega) (by omega)]
    by_cases e : a = rd l i
    · rw [if_pos e]
      exact ⟨i, rfl, by rw [e, rd]; simp; omega⟩
    · rw [if_neg e]
      obtain ⟨r, h1, h2⟩ := ih (i + 1) k (by omega) (by omega) (by omega)
      refine ⟨r, h1, h2.trans ?_⟩
      rw [List.contains_cons]
      have : (a == l.getD i.toNat 0) = false := by simpa [rd] using e
      rw [this, Bool.false_or]
theorem contains64_is (l : List Int) (a : Int) (hl : l.length ≤ 1152921504606846976) : slices_Contains_int64_int64.f (l.length + 1) l a = some (l.contains a) := by
  obtain ⟨r, h1, h2⟩ := index64_l0 l a hl l.length 0 (l.length + 1) (by omega) (by simp) (by omega)
  unfold slices_Contains_int64_int64.f slices_Index_int64_int64.f
  rw [h1]
  simp only [Option.bind_some, Option.some.injEq]
  by_cases hr : r ≥ 0
  · rw [decide_eq_true hr]
    exact (h2.1 hr).symm
  · rw [decide_eq_false hr]
    cases hc : l.contains a with
    | false => rfl
    | true => exact absurd (h2.2 hc) hr

/-- One number appended where there is room, as one step of a region that draws its order. -/
theorem step_room_one {P : Program} {ops : Array Oper} {o : Oper} {a : Act} {w : World} {K : Act → World → Prop} {Q : Exit → Act → World → Prop} {E : Prop}
    (hw : Region.wanted o (yielded ops a.tmps) = true) (s x : Operand) (t : TypeId) (hop : o.op = Op.call { callee := Callee.builtin Builtin.append, args := #[s, x], argTypes := #[t, t] })
    (e : TypeId) (i : TypeInfo) (h1 : P.underlying t = some (.slice e)) (h2 : P.info? e = some i) (h4 : i.size = 1)
    (G n cap : Nat) (hs : a.eval s = .slice (some ⟨G, 0, none⟩) n cap) (ad : Addr) (c : Nat) (v : Value) (hx : a.eval x = .slice (some ad) 1 c) (hc : w.cell? ad = some v) (hv : v.oneCell' = true)
    (hroom : n + 1 ≤ cap) (cs : Array Value) (tt : TypeId) (hG : w.heap[G]? = some (.cells cs tt (0, 0))) (hn : n < cs.size)
    (hK : K (a.put o.dst (.slice (some ⟨G, 0, none⟩) (n + 1) cap)) (w.setCell ⟨G, n, none⟩ v)) :
    if Region.wanted o (yielded ops a.tmps) = true then Oper.wp P o a w K Q else E := by
  rw [if_pos hw]
  have hcell := blk_cell hG n
  have hfz := blk_frozen hG n
  have hrun := run_append_room_cells (P := P) (w := w) t o.type e i h1 h2 G 0 n cap ad 1 c [v] (by simp [h4]) (fun j u hj => by
    cases j with
    | zero => simp only [List.getElem?_cons_zero, Option.some.injEq] at hj; subst hj; rw [show ad.add 0 = ad by simp [Addr.add]]; exact hc
    | succ j => simp at hj) (fun u hu => by rw [List.mem_singleton.1 hu]; exact hv) hroom (fun j hj => by
      obtain rfl : j = 0 := by simpa using hj
      rw [h4, show 0 + n * 1 + 0 = n by omega, hcell]
      simp [hn]) (fun j hj => by
      obtain rfl : j = 0 := by simpa using hj
      rw [h4, show 0 + n * 1 + 0 = n by omega]
      exact hfz)
  rw [h4, show 0 + n * 1 = n by omega] at hrun
  unfold Oper.wp
  simp [execOp, hop, resolve, invoke, builtin, hs, hx, hrun, Result.andThen]
  exact hK
theorem new_cell (w : World) (x : Value) (t : TypeId) : (w.alloc (.cells #[x] t)).cell? ⟨w.heap.size, 0, none⟩ = some x := by
  rw [blk_cell (blk_new w _)]
  rfl
theorem new_cell_drew (w : World) (x : Value) (t : TypeId) : ((w.alloc (.cells #[x] t)).drew).cell? ⟨w.heap.size, 0, none⟩ = some x := by
  rw [blk_cell (blk_drew (blk_new w _))]
  rfl
theorem pre_step {n G tt i : Nat} {now : List Int} {cs : Array Value} {wr W1 : World} (h : wr.heap[G]? = some (.cells cs tt (0, 0)) ∧ cs.size = n ∧ (∀ j, j < now.length → cs[j]? = some (.int .i64 (now.getD j 0)))) (hl : now.length < n) (h1 : W1.heap[G]? = some (.cells cs tt (0, 0))) :
    ∃ cs2, (W1.setCell ⟨G, now.length, none⟩ (.int .i64 (i : Int))).heap[G]? = some (.cells cs2 tt (0, 0)) ∧ cs2.size = n ∧ ∀ j, j < now.length + 1 → cs2[j]? = some (.int .i64 ((now ++ [(i : Int)]).getD j 0)) := by
  refine ⟨_, blk_set h1 _ _, by simpa using h.2.1, fun j hj => ?_⟩
  rw [Array.getElem?_setIfInBounds]
  by_cases e : now.length = j
  · subst e
    rw [if_pos rfl, if_pos (by rw [h.2.1]; exact hl)]
    simp [List.getD_eq_getElem?_getD]
  · rw [if_neg e, h.2.2 j (by omega)]
    simp [List.getD_eq_getElem?_getD, List.getElem?_append_left (show j < now.length by omega)]
theorem pre_step_drew {n G tt i : Nat} {now : List Int} {cs : Array Value} {wr W1 : World} (h : wr.heap[G]? = some (.cells cs tt (0, 0)) ∧ cs.size = n ∧ (∀ j, j < now.length → cs[j]? = some (.int .i64 (now.getD j 0)))) (hl : now.length < n) (h1 : W1.heap[G]? = some (.cells cs tt (0, 0))) :
    ∃ cs2, ((W1.setCell ⟨G, now.length, none⟩ (.int .i64 (i : Int))).drew).heap[G]? = some (.cells cs2 tt (0, 0)) ∧ cs2.size = n ∧ ∀ j, j < now.length + 1 → cs2[j]? = some (.int .i64 ((now ++ [(i : Int)]).getD j 0)) := by
  obtain ⟨cs2, h2, h3, h4⟩ := pre_step (i := i) h hl h1
  exact ⟨cs2, blk_drew h2, h3, h4⟩
theorem make_cap (n : Nat) (hn : n ≤ 1000000) (W : World) : (Instr.makeSlice 24 (.int .i64 0) (.int .i64 (n : Int))).run Try.prog W = .ok (.slice (some ⟨W.heap.size, 0, none⟩) 0 n) (W.alloc (.cells (madeCells #[.int .i64 0] n) 2)) := by
  have h := infoI64
  cases hi : Try.prog.info? 2 with
  | none => rw [hi] at h; cases h
  | some i =>
    rw [hi] at h
    simp only [Option.map_some, Option.some.injEq, Prod.mk.injEq] at h
    obtain ⟨h1, h2, h3⟩ := h
    have := run_make (P := Try.prog) W 24 2 i (.int .i64 0) Try.underlying24 hi h1 .i64 .i64 0 (n : Int) (by omega) (by omega) (by rw [h3]; omega) (by omega)
    rw [h2, Int.toNat_natCast, Nat.mul_one] at this
    exact this
theorem four_new (w : World) (A B C D : Obj) : ((((w.alloc A).alloc B).alloc C).alloc D).heap[w.heap.size]? = some A ∧ ((((w.alloc A).alloc B).alloc C).alloc D).heap[w.heap.size + 1]? = some B ∧
    ((((w.alloc A).alloc B).alloc C).alloc D).heap[w.heap.size + 1 + 1]? = some C ∧ ((((w.alloc A).alloc B).alloc C).alloc D).heap[w.heap.size + 1 + 1 + 1]? = some D := by
  have s1 : (w.alloc A).heap.size = w.heap.size + 1 := by simp
  have s2 : ((w.alloc A).alloc B).heap.size = w.heap.size + 1 + 1 := by simp
  have s3 : (((w.alloc A).alloc B).alloc C).heap.size = w.heap.size + 1 + 1 + 1 := by simp
  have h1 := blk_new (w.alloc A) B
  have h2 := blk_new ((w.alloc A).alloc B) C
  have h3 := blk_new (((w.alloc A).alloc B).alloc C) D
  rw [s1] at h1
  rw [s2] at h2
  rw [s3] at h3
  exact ⟨blk_alloc (blk_alloc (blk_alloc (blk_new w A) B) C) D, blk_alloc (blk_alloc h1 C) D, blk_alloc h2 D, h3⟩

/-- A function value that is called for orders: what it does to a state, and what it leaves alone: blocks from B0 on. -/
structure Cb (σ : Type) (n B0 : Nat) (D : Nat) (caps : Array Value) (st : σ → List Int → σ × Bool) (Inv : Nat → σ → World → Prop) : Prop where
  enters : ∀ (args : Array Value) (w : World), (callFunc D args).run Try.prog w = .ok (.enter D args) w
  stays : ∀ G s W W', B0 ≤ G → Inv G s W → Only (· = G) W W' → Inv G s W'
  called : ∀ G s W v o, B0 ≤ G → G < W.heap.size → Inv G s W → Kd.R (Kd.int .i64) 2 W (G + 1) (fun _ => True) v o → o.length = n → ((∀ x ∈ o, 0 ≤ x ∧ x < n) ∧ o.Nodup) →
    Calls Try.prog D (#[v] ++ caps) W fun e W' => e = .returned (.bool (st s o).2) ∧ Inv G (st s o).1 W' ∧ Only (· < B0) W W'
/-- The variables of orders in memory. -/
structure OBox (n D : Nat) (caps : Array Value) (G p : Nat) (W : World) : Prop where
  bn : W.heap[p]? = some (.cells #[.int .i64 n] 3 (0, 0))
  bd : W.heap[p + 1]? = some (.cells #[.func (.func D) #[] caps] 93 (0, 0))
  bg : W.heap[p + 2]? = some (.cells #[.func (.func 98) #[] #[.pointer (some ⟨p, 0, none⟩), .pointer (some ⟨p + 1, 0, none⟩), .pointer (some ⟨p + 2, 0, none⟩)]] 93 (0, 0))
  pG : p + 2 < G
set_option maxHeartbeats 4000000 in
set_option maxRecDepth 100000 in
theorem orders1_zero {σ : Type} {n B0 D : Nat} {caps : Array Value} {st : σ → List Int → σ × Bool} {Inv : Nat → σ → World → Prop} (C : Cb σ n B0 D caps st Inv) (hn : n ≤ 1000) (G p : Nat) (hp : B0 ≤ p) (now : List Int) (s : σ) (W : World)
    (hl : now.length = n) (hin : (∀ x ∈ now, 0 ≤ x ∧ x < n) ∧ now.Nodup) (hb : OBox n D caps G p W) (cs : Array Value) (hG : W.heap[G]? = some (.cells cs 2 (0, 0))) (hcs : ∀ j, j < now.length → cs[j]? = some (.int .i64 (now.getD j 0))) (hI : Inv G s W) :
    Calls Try.prog 98 #[.slice (some ⟨G, 0, none⟩) n n, .pointer (some ⟨p, 0, none⟩), .pointer (some ⟨p + 1, 0, none⟩), .pointer (some ⟨p + 2, 0, none⟩)] W fun e W' => e = .returned (.bool (st s now).2) ∧ Inv G (st s now).1 W' ∧ Only (· < B0) W W' := by
  have hbn := blk_cell hb.bn 0
  have hbd := blk_cell hb.bd 0
  have hcl : Aside0 (∀ W1, Below W.heap.size W W1 → Calls Try.prog 75 #[.slice (some ⟨G, 0, none⟩) n n] W1 fun e w' => ∃ v0_ : Value, e = .returned v0_ ∧ Kd.R (Kd.int .i64) 2 w' W1.heap.size (fun _ => True) v0_ now ∧ Below W1.heap.size W1 w') := ⟨fun W1 hb1 => by
    have hC : Kd.C (Kd.int .i64) W (some ⟨G, 0, none⟩) now.length now := Kd.C_of_reads (d := (0 : Int)) (h1 := fun _ => rfl) ⟨rfl, by omega, fun _ => ⟨_, rfl, fun j hj => by rw [add_plain, blk_cell hG]; exact hcs j hj⟩⟩
    have := slices_Clone_int64_int64.calls (some ⟨G, 0, none⟩) n now now W1 (Kd.C_below hC hb1) (by omega) (by unfold slices_Clone_int64_int64.f; rw [if_pos (by omega)])
    rw [hl] at this
    exact this⟩
  have hGl : G < W.heap.size := blk_lt hG
  have hB : B0 ≤ G := by have := hb.pG; omega
  have hcb : Aside0 (∀ W1 w1 v, Below W.heap.size W W1 → Below W1.heap.size W1 w1 → Kd.R (Kd.int .i64) 2 w1 W1.heap.size (fun _ => True) v now → Calls Try.prog D (#[v] ++ caps) w1 fun e W' => e = .returned (.bool (st s now).2) ∧ Inv G (st s now).1 W' ∧ Only (· < B0) w1 W') := ⟨fun W1 w1 v h1 h2 hv =>
    C.called G s w1 v now hB (Nat.lt_of_lt_of_le hGl (Nat.le_trans h1.size h2.size)) (C.stays G s W w1 hB hI ((Only.of_below h1).trans (Only.of_below h2))) (Kd.R_lower hv (Nat.le_trans (Nat.succ_le_of_lt hGl) h1.size)) hl hin⟩
  have HB := Aside0.mk (Below.refl W.heap.size W)
  have hent := C.enters
  clear hl hI hin hGl hB
  go_enter Try.func98, Try.ntmps98
  go_wp2
  go_region_with (first | (go_at_call 75; refine (hcl.out _ ?_).mono ?_; (exact below_drew HB.out); rintro e w1 ⟨v, rfl, hv, hb1⟩; have hbd1 : w1.cell? ⟨p + 1, 0, none⟩ = some (.func (.func D) #[] caps) := (hb1.cell (World.block_lt_of_cell? _ _ hbd)).trans hbd; have HV := Aside0.mk hv; have HB1 := Aside0.mk hb1; clear hv hb1) | (refine (hcb.out _ _ _ (below_drew HB.out) HB1.out HV.out).mono ?_; rintro e w2 ⟨rfl, hI2, hO2⟩; have HI2 := Aside0.mk hI2; have HO2 := Aside0.mk hO2; clear hI2 hO2))
  all_goals go_wp2
  all_goals go_ret
  all_goals exact ⟨by first | rfl | (simp; done), HI2.out, ((Only.refl _ W).drew.trans (Only.of_below HB1.out)).trans HO2.out⟩
theorem OBox.only {n D G p B0 : Nat} {caps : Array Value} {W W' : World} (h : OBox n D caps G p W) (k : Only (fun b => b = G ∨ b < B0) W W') (hp : B0 ≤ p) : OBox n D caps G p W' :=
  ⟨k.blk h.bn (by have := h.pG; omega), k.blk h.bd (by have := h.pG; omega), k.blk h.bg (by have := h.pG; omega), h.pG⟩
def ordPart (n d : Nat) (now : List Int) (i : Nat) : List (List Int) := if now.contains (i : Int) then [] else exts n d (now ++ [(i : Int)])
def ordRest (n d : Nat) (now : List Int) (i : Nat) : List (List Int) := ((List.range n).drop i).flatMap (ordPart n d now)
theorem ordRest_zero (n d : Nat) (now : List Int) : ordRest n d now 0 = exts n (d + 1) now := rfl
theorem ordRest_step {n d : Nat} {now : List Int} {i : Nat} (h : i < n) : ordRest n d now i = ordPart n d now i ++ ordRest n d now (i + 1) := by
  unfold ordRest
  rw [List.drop_eq_getElem_cons (by simpa using h), List.flatMap_cons]
  simp
theorem ordRest_end {n d : Nat} {now : List Int} {i : Nat} (h : n ≤ i) : ordRest n d now i = [] := by
  unfold ordRest
  rw [List.drop_eq_nil_of_le (by simpa using h)]
  rfl
/-- What orders1 hands back for an order that has been begun. -/
def OPost {σ : Type} (n B0 : Nat) (st : σ → List Int → σ × Bool) (Inv : Nat → σ → World → Prop) (G : Nat) (now : List Int) (os : List (List Int)) (s : σ) (W : World) (e : Ending) (W' : World) : Prop :=
  e = .returned (.bool (runAll st s os).2) ∧ Inv G (runAll st s os).1 W' ∧ Only (fun b => b = G ∨ b < B0) W W' ∧ ∃ cs', W'.heap[G]? = some (.cells cs' 2 (0, 0)) ∧ cs'.size = n ∧ (∀ j, j < now.length → cs'[j]? = some (.int .i64 (now.getD j 0)))
set_option maxHeartbeats 8000000 in
set_option maxRecDepth 100000 in
theorem orders1_calls {σ : Type} {n B0 D : Nat} {caps : Array Value} {st : σ → List Int → σ × Bool} {Inv : Nat → σ → World → Prop} (C : Cb σ n B0 D caps st Inv) (hn : n ≤ 1000) (G p : Nat) (hp : B0 ≤ p) : ∀ (d : Nat) (now : List Int) (s : σ) (W : World) (cs : Array Value),
    now.length + d = n → ((∀ x ∈ now, 0 ≤ x ∧ x < n) ∧ now.Nodup) → OBox n D caps G p W → W.heap[G]? = some (.cells cs 2 (0, 0)) → cs.size = n → (∀ j, j < now.length → cs[j]? = some (.int .i64 (now.getD j 0))) → Inv G s W →
    Calls Try.prog 98 #[.slice (some ⟨G, 0, none⟩) now.length n, .pointer (some ⟨p, 0, none⟩), .pointer (some ⟨p + 1, 0, none⟩), .pointer (some ⟨p + 2, 0, none⟩)] W (OPost n B0 st Inv G now (exts n d now) s W) := by
  intro d
  induction d with
  | zero =>
    intro now s W cs hl hin hb hG hsz hcs hI
    have hl' : now.length = n := by omega
    have := orders1_zero C hn G p hp now s W hl' hin hb cs hG hcs hI
    rw [hl']
    refine this.mono fun e W' ⟨h1, h2, h3⟩ => ?_
    have hr : runAll st s (exts n 0 now) = ((st s now).1, (st s now).2) := by
      simp only [exts, runAll]
      cases hb : (st s now).2 <;> simp
    refine ⟨?_, ?_, h3.mono (fun _ h => .inr h), cs, h3.blk hG (by have := hb.pG; omega), hsz, hcs⟩
    · rw [hr]; exact h1
    · rw [hr]; exact h2
  | succ d ih =>
    intro now s W cs hl hin hb hG hsz hcs hI
    have HIH := Aside0.mk ih
    clear ih
    have hbn := blk_cell hb.bn 0
    have hlen : decide ((now.length : Int) = (n : Int)) = false := decide_eq_false (by omega)
    have hlen' : ((now.length : Int) == (n : Int)) = false := beq_eq_false_iff_ne.mpr (by omega)
    have HL := Aside0.mk (And.intro hl hin)
    have HP : Aside0 (OBox n D caps G p W ∧ Inv G s W ∧ Only (fun b => b = G ∨ b < B0) W W ∧ ∃ cs', W.heap[G]? = some (.cells cs' 2 (0, 0)) ∧ cs'.size = n ∧ (∀ j, j < now.length → cs'[j]? = some (.int .i64 (now.getD j 0)))) := ⟨hb, hI, Only.refl _ _, cs, hG, hsz, hcs⟩
    have hC := Aside0.mk C
    clear hl hin hb hG hsz hcs hI C
    go_enter Try.func98, Try.ntmps98
    go_wp2
    go_loopg [16] n (fun gk v16 w' => ∃ (i : Nat) (s' : σ), v16 = .int .i64 i ∧ Aside0 (gk + i = n) ∧ Aside0 (runAll st s (exts n (d + 1) now) = runAll st s' (ordRest n d now i)) ∧ Aside0 (OBox n D caps G p w' ∧ Inv G s' w' ∧ Only (fun b => b = G ∨ b < B0) W w' ∧ ∃ cs', w'.heap[G]? = some (.cells cs' 2 (0, 0)) ∧ cs'.size = n ∧ (∀ j, j < now.length → cs'[j]? = some (.int .i64 (now.getD j 0)))))
    case atStart => exact ⟨0, s, rfl, ⟨rfl⟩, ⟨by rw [ordRest_zero]⟩, HP⟩
    case round =>
      clear HP
      obtain ⟨i, s', rfl, HK, HR, HP⟩ := hrel
      by_cases c3 : (i : Int) < (n : Int)
      · have c3b : decide ((i : Int) < (n : Int)) = true := decide_eq_true c3
        have c3n : decide (i < n) = true := decide_eq_true (by omega)
        have HX : Aside0 (wrap64 ((i : Int) + 1) = ((i + 1 : Nat) : Int)) := ⟨by rw [w64_in (by omega) (by omega)]; omega⟩
        have HN : Aside0 (∀ W1, Below wr.heap.size wr W1 → Calls Try.prog 71 #[.slice (some ⟨G, 0, none⟩) now.length n, .int .i64 i] W1 fun e w' => e = .returned (.bool (now.contains (i : Int))) ∧ Drawn0 W1 w') := ⟨fun W1 hb1 => by
          obtain ⟨_, _, _, cs', hG, _, hcs⟩ := HP.out
          have hC : Kd.C (Kd.int .i64) wr (some ⟨G, 0, none⟩) now.length now := Kd.C_of_reads (d := (0 : Int)) (h1 := fun _ => rfl) ⟨rfl, by have := HL.out.1; omega, fun _ => ⟨_, rfl, fun j hj => by rw [add_plain, blk_cell hG]; exact hcs j hj⟩⟩
          exact slices_Contains_int64_int64.calls (now.length + 1) (some ⟨G, 0, none⟩) n now i _ W1 (Kd.C_below hC hb1) (by have := HL.out.1; omega) (contains64_is now i (by have := HL.out.1; omega))⟩
        have HB := Aside0.mk (Below.refl wr.heap.size wr)
        cases hc : now.contains (i : Int) with
        | true =>
          have HIN : Aside0 (i < n) := ⟨by omega⟩
          have HREST : Aside0 (runAll st s (exts n (d + 1) now) = runAll st s' (ordRest n d now (i + 1))) := ⟨by rw [HR.out, ordRest_step HIN.out, ordPart, if_pos hc]; rfl⟩
          rw [hc] at HN
          have HNQ : Aside0 (∀ k, Calls Try.prog 71 #[.slice (some ⟨G, 0, none⟩) now.length n, .int .i64 i] (wr.drewN k) fun e w' => e = .returned (.bool true) ∧ ∃ m, w' = wr.drewN m) := ⟨fun k => (HN.out _ (pw_below_drewN HB.out k)).mono fun e w1 ⟨h1, ⟨m, h2⟩⟩ => ⟨h1, k + m, by rw [h2, World.drewN_drewN]⟩⟩
          clear c3 hc HN
          go_wp2
          go_quiet ((go_at_call 71; exact HNQ.out _))
          go_wp2
          go_roundg (gk - 1)
          case measure => have := HK.out; have := HIN.out; omega
          case rel =>
            refine ⟨i + 1, s', by first | rfl | rw [HX.out], ⟨by have := HK.out; have := HIN.out; omega⟩, ⟨HREST.out⟩, ⟨?_⟩⟩
            obtain ⟨h1, h2, h3, h4⟩ := HP.out
            exact ⟨⟨blk_drewN h1.bn _, blk_drewN h1.bd _, blk_drewN h1.bg _, h1.pG⟩, hC.out.stays G s' wr _ (by have := h1.pG; omega) h2 ((Only.refl _ wr).drewN _), h3.drewN _, h4⟩
        | false =>
          have HC2 := Aside0.mk hc
          rw [hc] at HN
          have hbg := blk_cell HP.out.1.bg 0
          obtain ⟨ii, hii, hiz⟩ : ∃ ii, Try.prog.info? 2 = some ii ∧ ii.size = 1 := ⟨_, rfl, rfl⟩
          have HII := Aside0.mk hii
          have HIZ := Aside0.mk hiz
          obtain ⟨cs1, hcs1⟩ := HP.out.2.2.2
          have HCS := Aside0.mk hcs1
          have hnG : p + 2 ≠ G := by have := HP.out.1.pG; omega
          obtain ⟨b, hbb⟩ : ∃ b, b = (runAll st s' (exts n d (now ++ [(i : Int)]))).2 := ⟨_, rfl⟩
          have HBB := Aside0.mk hbb
          clear hbb
          have HREC : Aside0 (∀ W1, Only (· = G) wr W1 → (∃ cs2, W1.heap[G]? = some (.cells cs2 2 (0, 0)) ∧ cs2.size = n ∧ ∀ j, j < now.length + 1 → cs2[j]? = some (.int .i64 ((now ++ [(i : Int)]).getD j 0))) → Calls Try.prog 98 #[.slice (some ⟨G, 0, none⟩) (now.length + 1) n, .pointer (some ⟨p, 0, none⟩), .pointer (some ⟨p + 1, 0, none⟩), .pointer (some ⟨p + 2, 0, none⟩)] W1 fun e W2 => e = .returned (.bool b) ∧ OBox n D caps G p W2 ∧ Inv G (runAll st s' (exts n d (now ++ [(i : Int)]))).1 W2 ∧ Only (fun b => b = G ∨ b < B0) W W2 ∧ ∃ cs', W2.heap[G]? = some (.cells cs' 2 (0, 0)) ∧ cs'.size = n ∧ (∀ j, j < now.length → cs'[j]? = some (.int .i64 (now.getD j 0)))) := ⟨fun W1 h1 ⟨cs2, h2, h3, h4⟩ => by
            have hl := HL.out.1
            have := HIH.out (now ++ [(i : Int)]) s' W1 cs2 (by simp; omega) ⟨fun x hx => by
              rcases List.mem_append.1 hx with hx | hx
              · exact HL.out.2.1 x hx
              · rw [List.mem_singleton.1 hx]; omega, List.nodup_append.2 ⟨HL.out.2.2, by simp, fun a ha b hb e => by
              rw [List.mem_singleton.1 hb] at e
              subst e
              have := HC2.out
              simp only [List.contains_eq_mem, decide_eq_false_iff_not] at this
              exact this ha⟩⟩ (HP.out.1.only (h1.mono (fun _ h => .inl h)) hp) h2 h3 (by simpa using h4) (hC.out.stays G s' wr W1 (by have := HP.out.1.pG; omega) HP.out.2.1 h1)
            rw [List.length_append] at this
            refine this.mono fun e W2 ⟨g1, g2, g3, cs3, g4, g5, g6⟩ => ?_
            have g7 := (h1.mono (S' := fun b => b = G ∨ b < B0) (fun _ h => .inl h)).trans g3
            refine ⟨by rw [HBB.out]; exact g1, HP.out.1.only g7 hp, g2, HP.out.2.2.1.trans g7, cs3, g4, g5, fun j hj => ?_⟩
            rw [g6 j (by simp; omega)]
            simp [List.getD_eq_getElem?_getD, List.getElem?_append_left hj]⟩
          have HIN : Aside0 (i < n) := ⟨by omega⟩
          have HREST : Aside0 ((runAll st s' (exts n d (now ++ [(i : Int)]))).2 = true → runAll st s (exts n (d + 1) now) = runAll st (runAll st s' (exts n d (now ++ [(i : Int)]))).1 (ordRest n d now (i + 1))) := ⟨fun h => by
            rw [HR.out, ordRest_step HIN.out, ordPart, if_neg (by rw [HC2.out]; decide), runAll_append, if_pos h]⟩
          have HSTOP : Aside0 ((runAll st s' (exts n d (now ++ [(i : Int)]))).2 = false → runAll st s (exts n (d + 1) now) = runAll st s' (exts n d (now ++ [(i : Int)]))) := ⟨fun h => by
            rw [HR.out, ordRest_step HIN.out, ordPart, if_neg (by rw [HC2.out]; decide), runAll_append, if_neg (by rw [h]; decide)]⟩
          have hbg2 : ∀ (k : Nat) (o : Obj), ((wr.drewN k).alloc o).cell? ⟨p + 2, 0, none⟩ = some (.func (.func 98) #[] #[.pointer (some ⟨p, 0, none⟩), .pointer (some ⟨p + 1, 0, none⟩), .pointer (some ⟨p + 2, 0, none⟩)]) := fun k o => blk_cell (blk_alloc (blk_drewN HP.out.1.bg k) o) 0
          have hbg3 : ∀ (k : Nat) (o : Obj) (j : Nat) (v : Value), (((wr.drewN k).alloc o).setCell ⟨G, j, none⟩ v).cell? ⟨p + 2, 0, none⟩ = some (.func (.func 98) #[] #[.pointer (some ⟨p, 0, none⟩), .pointer (some ⟨p + 1, 0, none⟩), .pointer (some ⟨p + 2, 0, none⟩)]) := fun k o j v => blk_cell (blk_far (blk_alloc (blk_drewN HP.out.1.bg k) o) hnG v) 0
          clear c3 hc hii hiz hcs1 hnG
          cases b with
          | true =>
            go_wp2
            go_region_law (first | (go_simp; go_at_call 71; refine (HN.out _ ?_).mono ?_; (exact below_drew HB.out); rintro e w1 ⟨rfl, ⟨m, rfl⟩⟩) | (refine step_room_one (by simp [Region.wanted, yielded]) (.tmp 25) (.tmp 27) 24 rfl 2 ii Try.underlying24 HII.out HIZ.out G now.length n rfl _ 1 (.int .i64 i) rfl ?c1 rfl ?c2 cs1 2 ?c3 ?c4 ?_; (case c1 => exact new_cell (World.drewN _ _) _ _); (case c2 => have := HL.out.1; omega); (case c3 => repeat (first | exact HCS.out.1 | apply blk_alloc | apply blk_drewN | apply blk_drew)); (case c4 => have := HL.out.1; have := HCS.out.2.1; omega)) | (go_simp; go_at_call 98; refine (HREC.out _ ?_ ?_).mono ?_; (exact Only.set (S := (· = G)) (((Only.refl _ wr).drewN _).alloc _) rfl _ _); (exact pre_step HCS.out (by have := HL.out.1; omega) (by repeat (first | exact HCS.out.1 | apply blk_alloc | apply blk_drewN | apply blk_drew))); (rintro e w2 ⟨rfl, hp2⟩; have HP2 := Aside0.mk hp2; clear hp2)))
            all_goals
              go_wp2
              go_roundg (gk - 1)
              case measure => have := HK.out; have := HIN.out; omega
              case rel =>
                refine ⟨i + 1, (runAll st s' (exts n d (now ++ [(i : Int)]))).1, by first | rfl | rw [HX.out], ⟨by have := HK.out; have := HIN.out; omega⟩, ⟨?_⟩, ?_⟩
                · exact HREST.out HBB.out.symm
                · exact HP2
          | false =>
            go_wp2
            go_region_law (first | (go_simp; go_at_call 71; refine (HN.out _ ?_).mono ?_; (exact below_drew HB.out); rintro e w1 ⟨rfl, ⟨m, rfl⟩⟩) | (refine step_room_one (by simp [Region.wanted, yielded]) (.tmp 25) (.tmp 27) 24 rfl 2 ii Try.underlying24 HII.out HIZ.out G now.length n rfl _ 1 (.int .i64 i) rfl ?c1 rfl ?c2 cs1 2 ?c3 ?c4 ?_; (case c1 => exact new_cell (World.drewN _ _) _ _); (case c2 => have := HL.out.1; omega); (case c3 => repeat (first | exact HCS.out.1 | apply blk_alloc | apply blk_drewN | apply blk_drew)); (case c4 => have := HL.out.1; have := HCS.out.2.1; omega)) | (go_simp; go_at_call 98; refine (HREC.out _ ?_ ?_).mono ?_; (exact Only.set (S := (· = G)) (((Only.refl _ wr).drewN _).alloc _) rfl _ _); (exact pre_step HCS.out (by have := HL.out.1; omega) (by repeat (first | exact HCS.out.1 | apply blk_alloc | apply blk_drewN | apply blk_drew))); (rintro e w2 ⟨rfl, hp2⟩; have HP2 := Aside0.mk hp2; clear hp2)))
            all_goals
              go_wp2
              go_ret
              have hst := HSTOP.out HBB.out.symm
              exact ⟨by rw [hst, ← HBB.out]; first | rfl | (simp; done), by rw [hst]; exact HP2.out.2.1, HP2.out.2.2.1, HP2.out.2.2.2⟩
      · have c3b : decide ((i : Int) < (n : Int)) = false := decide_eq_false c3
        have c3n : decide (i < n) = false := decide_eq_false (by omega)
        have HE : Aside0 (runAll st s (exts n (d + 1) now) = (s', true)) := ⟨by rw [HR.out, ordRest_end (by omega)]; rfl⟩
        clear c3
        go_wp2
        go_ret
        exact ⟨by rw [HE.out]; first | rfl | (simp; done), by rw [HE.out]; exact HP.out.2.1, HP.out.2.2.1, HP.out.2.2.2⟩
set_option maxHeartbeats 4000000 in
set_option maxRecDepth 100000 in
theorem impl_orders.calls {σ : Type} {n D : Nat} {caps : Array Value} {st : σ → List Int → σ × Bool} {Inv : Nat → σ → World → Prop} (w : World) (C : Cb σ n w.heap.size D caps st Inv) (hn : n ≤ 1000) (s : σ)
    (hI : ∀ G W, w.heap.size ≤ G → Below w.heap.size w W → Inv G s W) :
    Calls Try.prog 78 #[.int .i64 n, .func (.func D) #[] caps] w fun e w' => e = .returned (.tuple #[]) ∧ ∃ G, w.heap.size ≤ G ∧ Inv G (runAll st s (exts n n [])).1 w' := by
  have hmf : ∀ (fn : Fn) (first cap : Array Value) (w : World), (Instr.makeFunc fn first cap).run Try.prog w = .ok (.func fn first cap) w := fun _ _ _ _ => rfl
  have hmk := make_cap n (by omega)
  have HGO : Aside0 (Calls Try.prog 98 #[.slice (some ⟨w.heap.size + 1 + 1 + 1, 0, none⟩) 0 n, .pointer (some ⟨w.heap.size, 0, none⟩), .pointer (some ⟨w.heap.size + 1, 0, none⟩), .pointer (some ⟨w.heap.size + 1 + 1, 0, none⟩)]
      (((((w.alloc (.cells #[.int .i64 n] 3)).alloc (.cells #[.func (.func D) #[] caps] 93)).alloc (.cells #[.func (.func 98) #[] #[.pointer (some ⟨w.heap.size, 0, none⟩), .pointer (some ⟨w.heap.size + 1, 0, none⟩), .pointer (some ⟨w.heap.size + 1 + 1, 0, none⟩)]] 93)).alloc (.cells (madeCells #[.int .i64 0] n) 2)).drew)
      fun e w' => e = .returned (.bool (runAll st s (exts n n [])).2) ∧ Inv (w.heap.size + 1 + 1 + 1) (runAll st s (exts n n [])).1 w') := ⟨by
    have hf := four_new w (.cells #[.int .i64 n] 3) (.cells #[.func (.func D) #[] caps] 93) (.cells #[.func (.func 98) #[] #[.pointer (some ⟨w.heap.size, 0, none⟩), .pointer (some ⟨w.heap.size + 1, 0, none⟩), .pointer (some ⟨w.heap.size + 1 + 1, 0, none⟩)]] 93) (.cells (madeCells #[.int .i64 0] n) 2)
    have hb : Below w.heap.size w ((((w.alloc (.cells #[.int .i64 n] 3)).alloc (.cells #[.func (.func D) #[] caps] 93)).alloc (.cells #[.func (.func 98) #[] #[.pointer (some ⟨w.heap.size, 0, none⟩), .pointer (some ⟨w.heap.size + 1, 0, none⟩), .pointer (some ⟨w.heap.size + 1 + 1, 0, none⟩)]] 93)).alloc (.cells (madeCells #[.int .i64 0] n) 2)) := below_alloc (below_alloc (below_alloc (below_alloc (Below.refl _ _) _) _) _) _
    have := orders1_calls C hn (w.heap.size + 1 + 1 + 1) w.heap.size (Nat.le_refl _) n [] s _ _ (by simp) ⟨by simp, List.nodup_nil⟩ ⟨blk_drew hf.1, blk_drew hf.2.1, blk_drew hf.2.2.1, by omega⟩ (blk_drew hf.2.2.2) (size_madeCells _ _) (by simp) (hI _ _ (by omega) (below_drew hb))
    exact this.mono fun e w' h => ⟨h.1, h.2.1⟩⟩
  clear C hI
  go_enter Try.func78, Try.ntmps78
  go_wp2
  go_region_law (first | (go_simp; go_at_call 98; refine HGO.out.mono ?_; (rintro e w2 ⟨rfl, hp2⟩; have HP2 := Aside0.mk hp2; clear hp2)))
  all_goals go_wp2
  all_goals (go_end0; exact ⟨rfl, w.heap.size + 1 + 1 + 1, by omega, HP2.out⟩)

/-! ### impl_mayLie: function 99 -/
def impl_mayLie.f (a0_0 : Int) (a0_1 : Int) (a0_2 : Int) (a1_0 : Int) (a1_1 : Int) (a1_2 : Int) : Option (Bool) := if (IntKind.i8.wrap (a0_2 - a1_2)) ≥ (-2) then (if (IntKind.i8.wrap (a0_2 - a1_2)) ≤ 2 then (some (decide ((wrap64 (a1_1)) ≤ (wrap64 ((wrap64 (a0_1)) + 3))))) else (some false)) else (some false)
set_option maxHeartbeats 8000000 in
set_option maxRecDepth 100000 in
theorem impl_mayLie.calls (a0_0 : Int) (a0_1 : Int) (a0_2 : Int) (a1_0 : Int) (a1_1 : Int) (a1_2 : Int) (r : Bool) (w : World) (h : impl_mayLie.f a0_0 a0_1 a0_2 a1_0 a1_1 a1_2 = some r) :
    Calls Try.prog 99 #[.agg #[.int .i8 a0_0, .int .i8 a0_1, .int .i8 a0_2], .agg #[.int .i8 a1_0, .int .i8 a1_1, .int .i8 a1_2]] w fun e w' => e = .returned (.bool r) ∧ Below w.heap.size w w' := by
  have hu73 := Try.underlying73
  have HB := Aside0.mk (Below.refl w.heap.size w)
  have H : (if (IntKind.i8.wrap (a0_2 - a1_2)) ≥ (-2) then (if (IntKind.i8.wrap (a0_2 - a1_2)) ≤ 2 then (some (decide ((wrap64 (a1_1)) ≤ (wrap64 ((wrap64 (a0_1)) + 3))))) else (some false)) else (some false)) = some r := h
  clear h
  by_cases c3 : (IntKind.i8.wrap (a0_2 - a1_2)) ≥ (-2)
  · rw [if_pos c3] at H
    have c3b0 : decide ((-2) ≤ (IntKind.i8.wrap (a0_2 - a1_2))) = true := decide_eq_true c3
    clear c3
    by_cases c4 : (IntKind.i8.wrap (a0_2 - a1_2)) ≤ 2
    · rw [if_pos c4] at H
      have c4b0 : decide ((IntKind.i8.wrap (a0_2 - a1_2)) ≤ 2) = true := decide_eq_true c4
      clear c4
      obtain rfl := Option.some.inj H
      go_enter Try.func99, Try.ntmps99
      go_wp2_with (first | ((with_reducible refine gate_dst (N := 2) rfl ?_); refine box_event ?hg (N := 2) ?hd (cs := #[.int .i8 a0_0, .int .i8 a0_1, .int .i8 a0_2]) (t := 73) ?hr ?_; (case hd => rfl); (case hg => rfl); (case hr => first | (go_simp; done) | (go_simp; rfl)); intro gb232 hg w5 hbox hb; have n0_ := Aside0.mk (below_step (by repeat (first | (with_reducible first | exact HB.out | apply below_alloc | apply pw_below_drewN | apply below_drew1) | exact HB.out)) hb); have n1_ := Aside0.mk (hbox); have n2_ := Aside0.mk ((by rw [hg]; exact (below_size (by repeat (first | (with_reducible first | exact HB.out | apply below_alloc | apply pw_below_drewN | apply below_drew1) | exact HB.out))) : w.heap.size ≤ gb232)); have n3_ := Aside0.mk ((by rw [hg]; exact (below_size (by repeat (first | (with_reducible first | exact HB.out | apply below_alloc | apply pw_below_drewN | apply below_drew1) | exact HB.out))) : w.heap.size ≤ gb232)); clear HB; have HB := n0_; have BK232 := n1_; have GW232 := n2_; have GE232 := n3_; clear n0_ n1_ n2_ n3_; clear hb hbox hg) | ((with_reducible refine gate_dst (N := 3) rfl ?_); refine box_event ?hg (N := 3) ?hd (cs := #[.int .i8 a1_0, .int .i8 a1_1, .int .i8 a1_2]) (t := 73) ?hr ?_; (case hd => rfl); (case hg => rfl); (case hr => first | (go_simp; done) | (go_simp; rfl)); intro gb233 hg w6 hbox hb; have n0_ := Aside0.mk (blk_below (g := gb232) (o := .cells #[.int .i8 a0_0, .int .i8 a0_1, .int .i8 a0_2] 73 (0, 0)) (by (with_reducible repeat (first | refine blk_drewN ?_ _ | refine blk_drew ?_ | refine blk_alloc ?_ _)); exact BK232.out) hb); have n1_ := Aside0.mk (below_step (by repeat (first | (with_reducible first | exact HB.out | apply below_alloc | apply pw_below_drewN | apply below_drew1 | refine below_set ?_ GE232.out) | exact HB.out)) hb); have n2_ := Aside0.mk (hbox); have n3_ := Aside0.mk ((by rw [hg]; exact (below_size (by repeat (first | (with_reducible first | exact HB.out | apply below_alloc | apply pw_below_drewN | apply below_drew1 | refine below_set ?_ GE232.out) | exact HB.out))) : w.heap.size ≤ gb233)); have n4_ := Aside0.mk ((by rw [hg]; exact (below_size (by repeat (first | (with_reducible first | exact HB.out | apply below_alloc | apply pw_below_drewN | apply below_drew1 | refine below_set ?_ GE232.out) | exact HB.out))) : w.heap.size ≤ gb233)); have n5_ := Aside0.mk ((by rw [hg]; exact Nat.ne_of_lt (blk_lt (g := gb232) (o := .cells #[.int .i8 a0_0, .int .i8 a0_1, .int .i8 a0_2] 73 (0, 0)) (by (with_reducible repeat (first | refine blk_drewN ?_ _ | refine blk_drew ?_ | refine blk_alloc ?_ _)); exact BK232.out)) : gb232 ≠ gb233)); have n6_ := Aside0.mk ((by rw [hg]; exact Nat.ne_of_gt (blk_lt (g := gb232) (o := .cells #[.int .i8 a0_0, .int .i8 a0_1, .int .i8 a0_2] 73 (0, 0)) (by (with_reducible repeat (first | refine blk_drewN ?_ _ | refine blk_drew ?_ | refine blk_alloc ?_ _)); exact BK232.out)) : gb233 ≠ gb232)); clear BK232; clear HB; have BK232 := n0_; have HB := n1_; have BK233 := n2_; have GW233 := n3_; have GE233 := n4_; have NB232_233 := n5_; have NB233_232 := n6_; clear n0_ n1_ n2_ n3_ n4_ n5_ n6_; clear hb hbox hg; have hnb7 := NB232_233.out; have hnc7 := NB233_232.out; have hcz8_0 : w6.cell? ⟨gb232, 0, none⟩ = some (.int .i8 a0_0) := (blk_cell BK232.out 0).trans rfl; have hcz8_1 : w6.cell? ⟨gb232, 1, none⟩ = some (.int .i8 a0_1) := (blk_cell BK232.out 1).trans rfl; have hcz8_2 : w6.cell? ⟨gb232, 2, none⟩ = some (.int .i8 a0_2) := (blk_cell BK232.out 2).trans rfl; have hfz8_0 := blk_frozen BK232.out 0; have hfz8_1 := blk_frozen BK232.out 1; have hfz8_2 := blk_frozen BK232.out 2; have hcz9_0 : w6.cell? ⟨gb233, 0, none⟩ = some (.int .i8 a1_0) := (blk_cell BK233.out 0).trans rfl; have hcz9_1 : w6.cell? ⟨gb233, 1, none⟩ = some (.int .i8 a1_1) := (blk_cell BK233.out 1).trans rfl; have hcz9_2 : w6.cell? ⟨gb233, 2, none⟩ = some (.int .i8 a1_2) := (blk_cell BK233.out 2).trans rfl; have hfz9_0 := blk_frozen BK233.out 0; have hfz9_1 := blk_frozen BK233.out 1; have hfz9_2 := blk_frozen BK233.out 2))
      go_ret
      exact ⟨by first | rfl | (simp [errW_none, errW_some] <;> rfl) | (simp [*, errW_none, errW_some] <;> rfl), by repeat (first | (with_reducible first | exact HB.out | apply below_alloc | apply pw_below_drewN | apply below_drew1 | refine below_set ?_ GE232.out | refine below_set ?_ GE233.out) | exact HB.out)⟩
    · rw [if_neg c4] at H
      have c4b0 : decide ((IntKind.i8.wrap (a0_2 - a1_2)) ≤ 2) = false := decide_eq_false c4
      clear c4
      obtain rfl := Option.some.inj H
      go_enter Try.func99, Try.ntmps99
      go_wp2_with (first | ((with_reducible refine gate_dst (N := 2) rfl ?_); refine box_event ?hg (N := 2) ?hd (cs := #[.int .i8 a0_0, .int .i8 a0_1, .int .i8 a0_2]) (t := 73) ?hr ?_; (case hd => rfl); (case hg => rfl); (case hr => first | (go_simp; done) | (go_simp; rfl)); intro gb232 hg w10 hbox hb; have n0_ := Aside0.mk (below_step (by repeat (first | (with_reducible first | exact HB.out | apply below_alloc | apply pw_below_drewN | apply below_drew1) | exact HB.out)) hb); have n1_ := Aside0.mk (hbox); have n2_ := Aside0.mk ((by rw [hg]; exact (below_size (by repeat (first | (with_reducible first | exact HB.out | apply below_alloc | apply pw_below_drewN | apply below_drew1) | exact HB.out))) : w.heap.size ≤ gb232)); have n3_ := Aside0.mk ((by rw [hg]; exact (below_size (by repeat (first | (with_reducible first | exact HB.out | apply below_alloc | apply pw_below_drewN | apply below_drew1) | exact HB.out))) : w.heap.size ≤ gb232)); clear HB; have HB := n0_; have BK232 := n1_; have GW232 := n2_; have GE232 := n3_; clear n0_ n1_ n2_ n3_; clear hb hbox hg) | ((with_reducible refine gate_dst (N := 3) rfl ?_); refine box_event ?hg (N := 3) ?hd (cs := #[.int .i8 a1_0, .int .i8 a1_1, .int .i8 a1_2]) (t := 73) ?hr ?_; (case hd => rfl); (case hg => rfl); (case hr => first | (go_simp; done) | (go_simp; rfl)); intro gb233 hg w11 hbox hb; have n0_ := Aside0.mk (blk_below (g := gb232) (o := .cells #[.int .i8 a0_0, .int .i8 a0_1, .int .i8 a0_2] 73 (0, 0)) (by (with_reducible repeat (first | refine blk_drewN ?_ _ | refine blk_drew ?_ | refine blk_alloc ?_ _)); exact BK232.out) hb); have n1_ := Aside0.mk (below_step (by repeat (first | (with_reducible first | exact HB.out | apply below_alloc | apply pw_below_drewN | apply below_drew1 | refine below_set ?_ GE232.out) | exact HB.out)) hb); have n2_ := Aside0.mk (hbox); have n3_ := Aside0.mk ((by rw [hg]; exact (below_size (by repeat (first | (with_reducible first | exact HB.out | apply below_alloc | apply pw_below_drewN | apply below_drew1 | refine below_set ?_ GE232.out) | exact HB.out))) : w.heap.size ≤ gb233)); have n4_ := Aside0.mk ((by rw [hg]; exact (below_size (by repeat (first | (with_reducible first | exact HB.out | apply below_alloc | apply pw_below_drewN | apply below_drew1 | refine below_set ?_ GE232.out) | exact HB.out))) : w.heap.size ≤ gb233)); have n5_ := Aside0.mk ((by rw [hg]; exact Nat.ne_of_lt (blk_lt (g := gb232) (o := .cells #[.int .i8 a0_0, .int .i8 a0_1, .int .i8 a0_2] 73 (0, 0)) (by (with_reducible repeat (first | refine blk_drewN ?_ _ | refine blk_drew ?_ | refine blk_alloc ?_ _)); exact BK232.out)) : gb232 ≠ gb233)); have n6_ := Aside0.mk ((by rw [hg]; exact Nat.ne_of_gt (blk_lt (g := gb232) (o := .cells #[.int .i8 a0_0, .int .i8 a0_1, .int .i8 a0_2] 73 (0, 0)) (by (with_reducible repeat (first | refine blk_drewN ?_ _ | refine blk_drew ?_ | refine blk_alloc ?_ _)); exact BK232.out)) : gb233 ≠ gb232)); clear BK232; clear HB; have BK232 := n0_; have HB := n1_; have BK233 := n2_; have GW233 := n3_; have GE233 := n4_; have NB232_233 := n5_; have NB233_232 := n6_; clear n0_ n1_ n2_ n3_ n4_ n5_ n6_; clear hb hbox hg; have hnb12 := NB232_233.out; have hnc12 := NB233_232.out; have hcz13_0 : w11.cell? ⟨gb232, 0, none⟩ = some (.int .i8 a0_0) := (blk_cell BK232.out 0).trans rfl; have hcz13_1 : w11.cell? ⟨gb232, 1, none⟩ = some (.int .i8 a0_1) := (blk_cell BK232.out 1).trans rfl; have hcz13_2 : w11.cell? ⟨gb232, 2, none⟩ = some (.int .i8 a0_2) := (blk_cell BK232.out 2).trans rfl; have hfz13_0 := blk_frozen BK232.out 0; have hfz13_1 := blk_frozen BK232.out 1; have hfz13_2 := blk_frozen BK232.out 2; have hcz14_0 : w11.cell? ⟨gb233, 0, none⟩ = some (.int .i8 a1_0) := (blk_cell BK233.out 0).trans rfl; have hcz14_1 : w11.cell? ⟨gb233, 1, none⟩ = some (.int .i8 a1_1) := (blk_cell BK233.out 1).trans rfl; have hcz14_2 : w11.cell? ⟨gb233, 2, none⟩ = some (.int .i8 a1_2) := (blk_cell BK233.out 2).trans rfl; have hfz14_0 := blk_frozen BK233.out 0; have hfz14_1 := blk_frozen BK233.out 1; have hfz14_2 := blk_frozen BK233.out 2))
      go_ret
      exact ⟨by first | rfl | (simp [errW_none, errW_some] <;> rfl) | (simp [*, errW_none, errW_some] <;> rfl), by repeat (first | (with_reducible first | exact HB.out | apply below_alloc | apply pw_below_drewN | apply below_drew1 | refine below_set ?_ GE232.out | refine below_set ?_ GE233.out) | exact HB.out)⟩
  · rw [if_neg c3] at H
    have c3b0 : decide ((-2) ≤ (IntKind.i8.wrap (a0_2 - a1_2))) = false := decide_eq_false c3
    clear c3
    obtain rfl := Option.some.inj H
    go_enter Try.func99, Try.ntmps99
    go_wp2_with (first | ((with_reducible refine gate_dst (N := 2) rfl ?_); refine box_event ?hg (N := 2) ?hd (cs := #[.int .i8 a0_0, .int .i8 a0_1, .int .i8 a0_2]) (t := 73) ?hr ?_; (case hd => rfl); (case hg => rfl); (case hr => first | (go_simp; done) | (go_simp; rfl)); intro gb232 hg w15 hbox hb; have n0_ := Aside0.mk (below_step (by repeat (first | (with_reducible first | exact HB.out | apply below_alloc | apply pw_below_drewN | apply below_drew1) | exact HB.out)) hb); have n1_ := Aside0.mk (hbox); have n2_ := Aside0.mk ((by rw [hg]; exact (below_size (by repeat (first | (with_reducible first | exact HB.out | apply below_alloc | apply pw_below_drewN | apply below_drew1) | exact HB.out))) : w.heap.size ≤ gb232)); have n3_ := Aside0.mk ((by rw [hg]; exact (below_size (by repeat (first | (with_reducible first | exact HB.out | apply below_alloc | apply pw_below_drewN | apply below_drew1) | exact HB.out))) : w.heap.size ≤ gb232)); clear HB; have HB := n0_; have BK232 := n1_; have GW232 := n2_; have GE232 := n3_; clear n0_ n1_ n2_ n3_; clear hb hbox hg) | ((with_reducible refine gate_dst (N := 3) rfl ?_); refine box_event ?hg (N := 3) ?hd (cs := #[.int .i8 a1_0, .int .i8 a1_1, .int .i8 a1_2]) (t := 73) ?hr ?_; (case hd => rfl); (case hg => rfl); (case hr => first | (go_simp; done) | (go_simp; rfl)); intro gb233 hg w16 hbox hb; have n0_ := Aside0.mk (blk_below (g := gb232) (o := .cells #[.int .i8 a0_0, .int .i8 a0_1, .int .i8 a0_2] 73 (0, 0)) (by (with_reducible repeat (first | refine blk_drewN ?_ _ | refine blk_drew ?_ | refine blk_alloc ?_ _)); exact BK232.out) hb); have n1_ := Aside0.mk (below_step (by repeat (first | (with_reducible first | exact HB.out | apply below_alloc | apply pw_below_drewN | apply below_drew1 | refine below_set ?_ GE232.out) | exact HB.out)) hb); have n2_ := Aside0.mk (hbox); have n3_ := Aside0.mk ((by rw [hg]; exact (below_size (by repeat (first | (with_reducible first | exact HB.out | apply below_alloc | apply pw_below_drewN | apply below_drew1 | refine below_set ?_ GE232.out) | exact HB.out))) : w.heap.size ≤ gb233)); have n4_ := Aside0.mk ((by rw [hg]; exact (below_size (by repeat (first | (with_reducible first | exact HB.out | apply below_alloc | apply pw_below_drewN | apply below_drew1 | refine below_set ?_ GE232.out) | exact HB.out))) : w.heap.size ≤ gb233)); have n5_ := Aside0.mk ((by rw [hg]; exact Nat.ne_of_lt (blk_lt (g := gb232) (o := .cells #[.int .i8 a0_0, .int .i8 a0_1, .int .i8 a0_2] 73 (0, 0)) (by (with_reducible repeat (first | refine blk_drewN ?_ _ | refine blk_drew ?_ | refine blk_alloc ?_ _)); exact BK232.out)) : gb232 ≠ gb233)); have n6_ := Aside0.mk ((by rw [hg]; exact Nat.ne_of_gt (blk_lt (g := gb232) (o := .cells #[.int .i8 a0_0, .int .i8 a0_1, .int .i8 a0_2] 73 (0, 0)) (by (with_reducible repeat (first | refine blk_drewN ?_ _ | refine blk_drew ?_ | refine blk_alloc ?_ _)); exact BK232.out)) : gb233 ≠ gb232)); clear BK232; clear HB; have BK232 := n0_; have HB := n1_; have BK233 := n2_; have GW233 := n3_; have GE233 := n4_; have NB232_233 := n5_; have NB233_232 := n6_; clear n0_ n1_ n2_ n3_ n4_ n5_ n6_; clear hb hbox hg; have hnb17 := NB232_233.out; have hnc17 := NB233_232.out; have hcz18_0 : w16.cell? ⟨gb232, 0, none⟩ = some (.int .i8 a0_0) := (blk_cell BK232.out 0).trans rfl; have hcz18_1 : w16.cell? ⟨gb232, 1, none⟩ = some (.int .i8 a0_1) := (blk_cell BK232.out 1).trans rfl; have hcz18_2 : w16.cell? ⟨gb232, 2, none⟩ = some (.int .i8 a0_2) := (blk_cell BK232.out 2).trans rfl; have hfz18_0 := blk_frozen BK232.out 0; have hfz18_1 := blk_frozen BK232.out 1; have hfz18_2 := blk_frozen BK232.out 2; have hcz19_0 : w16.cell? ⟨gb233, 0, none⟩ = some (.int .i8 a1_0) := (blk_cell BK233.out 0).trans rfl; have hcz19_1 : w16.cell? ⟨gb233, 1, none⟩ = some (.int .i8 a1_1) := (blk_cell BK233.out 1).trans rfl; have hcz19_2 : w16.cell? ⟨gb233, 2, none⟩ = some (.int .i8 a1_2) := (blk_cell BK233.out 2).trans rfl; have hfz19_0 := blk_frozen BK233.out 0; have hfz19_1 := blk_frozen BK233.out 1; have hfz19_2 := blk_frozen BK233.out 2))
    go_ret
    exact ⟨by first | rfl | (simp [errW_none, errW_some] <;> rfl) | (simp [*, errW_none, errW_some] <;> rfl), by repeat (first | (with_reducible first | exact HB.out | apply below_alloc | apply pw_below_drewN | apply below_drew1 | refine below_set ?_ GE232.out | refine below_set ?_ GE233.out) | exact HB.out)⟩

/-! ### impl_wrong: function 80 -/
def impl_wrong.l0 : Nat → List (S73) → Int → Option (Int)
  | 0, _, _ => none
  | k + 1, x0, x3 => if x3 < (x0.length : Int) then (if 0 ≤ (wrap64 (x3 - 1)) then (if (wrap64 (x3 - 1)) < (x0.length : Int) then (if 0 ≤ x3 then ((impl_mayLie.f ((rd_T73 x0 (wrap64 (x3 - 1))).f0) ((rd_T73 x0 (wrap64 (x3 - 1))).f1) ((rd_T73 x0 (wrap64 (x3 - 1))).f2) ((rd_T73 x0 x3).f0) ((rd_T73 x0 x3).f1) ((rd_T73 x0 x3).f2)).bind fun t236 => (if t236 = true then (impl_wrong.l0 k x0 (wrap64 (x3 + 1))) else (some x3))) else (none)) else (none)) else (none)) else (some (-1))
def impl_wrong.f (k : Nat) (l0 : List (S73)) : Option (Int) := impl_wrong.l0 k l0 1
theorem impl_wrong.mono_l : ∀ k, (∀ y0 y1, LeO (impl_wrong.l0 k y0 y1) (impl_wrong.l0 (k + 1) y0 y1))
  | 0 => fun _ _ r h => by simp [impl_wrong.l0] at h
  | k + 1 => by
    have ih0 := impl_wrong.mono_l k
    · intro y0 y1
      unfold impl_wrong.l0
      repeat' first
      | (with_reducible exact ih0 _ _)
      | (with_reducible exact LeO.refl _)
      | (with_reducible exact LeO.none _)
      | (with_reducible refine LeO.ite ?_ ?_)
      | (with_reducible refine LeO.bind ?_ (fun _ => ?_))
      | exact ih0 _ _
      | exact LeO.none _
      | refine LeO.ite ?_ ?_
      | refine LeO.bind ?_ (fun _ => ?_)
theorem impl_wrong.mono : ∀ a0 k, LeO (impl_wrong.f k a0) (impl_wrong.f (k + 1) a0) := by
  intro a0 k
  have ih0 := impl_wrong.mono_l k
  unfold impl_wrong.f
  repeat' first
      | (with_reducible exact ih0 _ _)
      | (with_reducible exact LeO.refl _)
      | (with_reducible exact LeO.none _)
      | (with_reducible refine LeO.ite ?_ ?_)
      | (with_reducible refine LeO.bind ?_ (fun _ => ?_))
      | exact ih0 _ _
      | exact LeO.none _
      | refine LeO.ite ?_ ?_
      | refine LeO.bind ?_ (fun _ => ?_)
def impl_wrong.T4 : Bool × List (List Nat × List Nat) := (true, [([], []), ([], []), ([1], [1]), ([0, 2], [0, 2]), ([3], [3]), ([], []), ([], []), ([5, 6], [5, 6]), ([7], [7]), ([4, 8], [4, 8]), ([9], [9])])
def impl_wrong.B4 : List Nat := [0, 0, 2, 7, 15, 0, 0, 96, 224, 511, 1023]
theorem impl_wrong.tab4 : rtab .any (opsOf Try.f80 4) = impl_wrong.T4 := by kernel_rfl
theorem impl_wrong.bits4 : waitsOk impl_wrong.T4.2 impl_wrong.B4 = true := by kernel_rfl
set_option maxHeartbeats 8000000 in
set_option maxRecDepth 100000 in
theorem impl_wrong.calls (k : Nat) (A0 : Option Addr) (c0 : Nat) (l0 : List (S73)) (r : Int) (w : World) (hr0 : Kd.C k73 w A0 l0.length l0) (hc0 : l0.length ≤ c0) (h : impl_wrong.f k l0 = some r) :
    Calls Try.prog 80 #[.slice A0 l0.length c0] w fun e w' => e = .returned (.int .i64 r) ∧ Below w.heap.size w w' := by
  have hu73 := Try.underlying73
  have HR0 := Aside0.mk hr0
  have HC0 := Aside0.mk hc0
  clear hr0 hc0
  have HB := Aside0.mk (Below.refl w.heap.size w)
  have H : (impl_wrong.l0 k l0 1) = some r := h
  clear h
  have H' := Aside0.mk H
  clear H
  go_enter Try.func80, Try.ntmps80
  go_wp2
  go_loopg [3] k (fun kq v3 w' => ∃ (x3_1 : Int), v3 = .int .i64 x3_1 ∧ Aside0 (impl_wrong.l0 kq l0 x3_1 = some r) ∧ Aside0 (kq ≤ k) ∧ Aside0 (Below w.heap.size w w'))
  case atStart => exact ⟨(1), (by first | rfl | (simp; done) | (simp [*]; done)), H', ⟨Nat.le_refl _⟩, ⟨by repeat (first | (with_reducible first | exact HB.out | apply below_alloc | apply pw_below_drewN | apply below_drew1) | exact HB.out)⟩⟩
  case round =>
    clear H'
    obtain ⟨x3_1, rfl, HA, HK1, HB⟩ := hrel
    cases gk with
    | zero => exact absurd HA.out (by simp [impl_wrong.l0])
    | succ k1 =>
      have H := HA.out
      clear HA
      simp only [impl_wrong.l0] at H
      by_cases c2 : x3_1 < (l0.length : Int)
      · rw [if_pos c2] at H
        have c2b0 : decide (x3_1 < (l0.length : Int)) = true := decide_eq_true c2
        clear c2
        obtain ⟨ji3, hji3⟩ : ∃ j_ : Int, (wrap64 (x3_1 - 1)) = j_ := ⟨_, rfl⟩
        replace H : (if 0 ≤ (ji3) then (if (ji3) < (l0.length : Int) then (if 0 ≤ x3_1 then ((impl_mayLie.f ((rd_T73 l0 (ji3)).f0) ((rd_T73 l0 (ji3)).f1) ((rd_T73 l0 (ji3)).f2) ((rd_T73 l0 x3_1).f0) ((rd_T73 l0 x3_1).f1) ((rd_T73 l0 x3_1).f2)).bind fun t236 => (if t236 = true then (impl_wrong.l0 k1 l0 (wrap64 (x3_1 + 1))) else (some x3_1))) else (none)) else (none)) else (none)) = some r := by first | (rw [hji3] at H; exact H) | (simp only [hji3] at H ⊢; exact H)
        have hji3w : (IntKind.i64.wrap (x3_1 - 1)) = ji3 := (i64_w _).trans hji3
        by_cases c4 : 0 ≤ (ji3)
        · rw [if_pos c4] at H
          have c4b0 : decide (0 ≤ (ji3)) = true := decide_eq_true c4
          clear c4
          by_cases c5 : (ji3) < (l0.length : Int)
          · rw [if_pos c5] at H
            have c5b0 : decide ((ji3) < (l0.length : Int)) = true := decide_eq_true c5
            clear c5
            by_cases c6 : 0 ≤ x3_1
            · rw [if_pos c6] at H
              have c6b0 : decide (0 ≤ x3_1) = true := decide_eq_true c6
              clear c6
              replace H := Option.bind_eq_some_iff.mp H
              obtain ⟨t236, A70, H⟩ := H
              replace H : (if t236 = true then (impl_wrong.l0 k1 l0 (wrap64 (x3_1 + 1))) else (some x3_1)) = some r := H
              have A7 := Aside0.mk A70
              clear A70
              by_cases c8 : t236 = true
              · subst c8
                have H1 : (impl_wrong.l0 k1 l0 (wrap64 (x3_1 + 1))) = some r := by rw [if_pos rfl] at H; exact H
                clear H
                have H := H1
                clear H1
                have H' := Aside0.mk H
                clear H
                try go_wp2
                have n0_ := Aside0.mk (below_drew1 HB.out)
                clear HB
                have HB := n0_
                clear n0_
                have p234 : 0 ≤ ((ji3) : Int) := of_decide_eq_true (by first | (with_reducible assumption) | assumption)
                have q234 : (ji3) < (l0.length : Int) := of_decide_eq_true (by first | (with_reducible assumption) | assumption)
                obtain ⟨ad234, e234, hx234_0, hx234_1, hx234_2⟩ := at_T73 HR0.out (ji3) p234 q234
                have hw234_2 := hx234_2
                have hw234_1 := hx234_1
                have hw234_0 := hx234_0
                cases e234
                replace hx234_0 := (HB.out.cell (World.block_lt_of_cell? w _ hx234_0)).trans hx234_0
                replace hx234_1 := (HB.out.cell (World.block_lt_of_cell? w _ hx234_1)).trans hx234_1
                replace hx234_2 := (HB.out.cell (World.block_lt_of_cell? w _ hx234_2)).trans hx234_2
                replace p234 := eq_true p234
                replace q234 := eq_true q234
                have p235 : 0 ≤ (x3_1 : Int) := of_decide_eq_true (by first | (with_reducible assumption) | assumption)
                have q235 : x3_1 < (l0.length : Int) := of_decide_eq_true (by first | (with_reducible assumption) | assumption)
                obtain ⟨ad235, e235, hx235_0, hx235_1, hx235_2⟩ := at_T73 HR0.out x3_1 p235 q235
                have hw235_2 := hx235_2
                have hw235_1 := hx235_1
                have hw235_0 := hx235_0
                obtain rfl : ad234 = ad235 := (by injection e235)
                replace hx235_0 := (HB.out.cell (World.block_lt_of_cell? w _ hx235_0)).trans hx235_0
                replace hx235_1 := (HB.out.cell (World.block_lt_of_cell? w _ hx235_1)).trans hx235_1
                replace hx235_2 := (HB.out.cell (World.block_lt_of_cell? w _ hx235_2)).trans hx235_2
                replace p235 := eq_true p235
                replace q235 := eq_true q235
                refine start_ (n := 11) (S := fun w' => w'.cell? (ad234.add (((ji3)).toNat * 3)) = some (.int .i8 ((rd_T73 l0 (ji3)).f0)) ∧ w'.cell? ⟨(ad234.add (((ji3)).toNat * 3)).block, (ad234.add (((ji3)).toNat * 3)).off + 1, none⟩ = some (.int .i8 ((rd_T73 l0 (ji3)).f1)) ∧ w'.cell? ⟨(ad234.add (((ji3)).toNat * 3)).block, (ad234.add (((ji3)).toNat * 3)).off + 2, none⟩ = some (.int .i8 ((rd_T73 l0 (ji3)).f2)) ∧ w'.cell? (ad234.add ((x3_1).toNat * 3)) = some (.int .i8 ((rd_T73 l0 x3_1).f0)) ∧ w'.cell? ⟨(ad234.add ((x3_1).toNat * 3)).block, (ad234.add ((x3_1).toNat * 3)).off + 1, none⟩ = some (.int .i8 ((rd_T73 l0 x3_1).f1)) ∧ w'.cell? ⟨(ad234.add ((x3_1).toNat * 3)).block, (ad234.add ((x3_1).toNat * 3)).off + 2, none⟩ = some (.int .i8 ((rd_T73 l0 x3_1).f2))) (ds := []) #[false, false, false, false, false, false, false, false, false, false, false] (by kernel_rfl) rfl rfl ⟨((HB.out.cell (World.block_lt_of_cell? w _ hw234_0)).trans hw234_0), ((HB.out.cell (World.block_lt_of_cell? w _ hw234_1)).trans hw234_1), ((HB.out.cell (World.block_lt_of_cell? w _ hw234_2)).trans hw234_2), ((HB.out.cell (World.block_lt_of_cell? w _ hw235_0)).trans hw235_0), ((HB.out.cell (World.block_lt_of_cell? w _ hw235_1)).trans hw235_1), ((HB.out.cell (World.block_lt_of_cell? w _ hw235_2)).trans hw235_2)⟩ (fun hHeld => ?_); refine with_tabW impl_wrong.tab4 impl_wrong.bits4 (fun HT_ HW_ => ?_)
                generalize wr.drew = w9 at HB hx234_0 hx234_1 hx234_2 hx235_0 hx235_1 hx235_2 hHeld ⊢
                refine pure_ (i := 0) (N := some 10) (v := ?_) (a' := ?_) #[true, false, false, false, false, false, false, false, false, false, false] rfl rfl (any_of HT_.out (by kernel_rfl)) (fun _ _ _ h => h) (Or.inl ⟨by rfl, ?_⟩) ?_ ?_
                rotate_left
                · intro w'
                  go_simp
                  with_reducible rfl
                rotate_left
                · simp only [Act.put, List.setIfInBounds_toArray, List.set_cons_zero, List.set_cons_succ, i64_w, i32_w]
                  rfl
                refine pure_ (i := 1) (N := some 11) (v := ?_) (a' := ?_) #[true, true, false, false, false, false, false, false, false, false, false] rfl rfl (any_of HT_.out (by kernel_rfl)) (fun _ _ _ h => h) (Or.inl ⟨by rfl, ?_⟩) ?_ ?_
                rotate_left
                · intro w'
                  go_simp
                  with_reducible rfl
                rotate_left
                · simp only [Act.put, List.setIfInBounds_toArray, List.set_cons_zero, List.set_cons_succ, i64_w, i32_w]
                  rfl
                refine pure_ (i := 2) (N := some 12) (v := ?_) (a' := ?_) #[true, true, true, false, false, false, false, false, false, false, false] rfl rfl (any_of HT_.out (by kernel_rfl)) (fun _ _ _ h => h) (Or.inl ⟨by rfl, ?_⟩) ?_ ?_
                rotate_left
                · intro w'
                  go_simp
                  with_reducible rfl
                rotate_left
                · simp only [Act.put, List.setIfInBounds_toArray, List.set_cons_zero, List.set_cons_succ, i64_w, i32_w]
                  rfl
                refine pure_ (i := 3) (N := some 13) (v := ?_) (a' := ?_) #[true, true, true, true, false, false, false, false, false, false, false] rfl rfl (any_of HT_.out (by kernel_rfl)) (fun _ _ _ h => h) (Or.inl ⟨by rfl, ?_⟩) ?_ ?_
                rotate_left
                · intro w'
                  go_simp
                  with_reducible rfl
                rotate_left
                · simp only [Act.put, List.setIfInBounds_toArray, List.set_cons_zero, List.set_cons_succ, i64_w, i32_w]
                  rfl
                refine pure_ (i := 5) (N := some 15) (v := ?_) (a' := ?_) #[true, true, true, true, false, true, false, false, false, false, false] rfl rfl (any_of HT_.out (by kernel_rfl)) (fun _ _ _ h => h) (Or.inl ⟨by rfl, ?_⟩) ?_ ?_
                rotate_left
                · intro w'
                  go_simp
                  with_reducible rfl
                rotate_left
                · simp only [Act.put, List.setIfInBounds_toArray, List.set_cons_zero, List.set_cons_succ, i64_w, i32_w]
                  rfl
                refine pure_ (i := 6) (N := some 16) (v := ?_) (a' := ?_) #[true, true, true, true, false, true, true, false, false, false, false] rfl rfl (any_of HT_.out (by kernel_rfl)) (fun _ _ _ h => h) (Or.inl ⟨by rfl, ?_⟩) ?_ ?_
                rotate_left
                · intro w'
                  go_simp
                  with_reducible rfl
                rotate_left
                · simp only [Act.put, List.setIfInBounds_toArray, List.set_cons_zero, List.set_cons_succ, i64_w, i32_w]
                  rfl
                refine pure_ (i := 7) (N := some 17) (v := ?_) (a' := ?_) #[true, true, true, true, false, true, true, true, false, false, false] rfl rfl (any_of HT_.out (by kernel_rfl)) (fun _ _ _ h => h) (Or.inl ⟨by rfl, ?_⟩) ?_ ?_
                rotate_left
                · intro w'
                  go_simp
                  with_reducible rfl
                rotate_left
                · simp only [Act.put, List.setIfInBounds_toArray, List.set_cons_zero, List.set_cons_succ, i64_w, i32_w]
                  rfl
                refine take_ (i := 4) (N := some 14) (v := ?_) (a' := ?_) #[true, true, true, true, true, true, true, true, false, false, false] rfl rfl (take_ofW HT_.out HW_.out (by kernel_rfl)) (fun _ _ _ h => h) (Or.inl ⟨by rfl, ?_⟩) hHeld ?_ ?_
                rotate_left
                · rintro w' ⟨s0, s1, s2, s3, s4, s5⟩
                  go_simp
                  with_reducible rfl
                rotate_left
                · simp only [Act.put, List.setIfInBounds_toArray, List.set_cons_zero, List.set_cons_succ, i64_w, i32_w]
                  rfl
                refine take_ (i := 8) (N := some 18) (v := ?_) (a' := ?_) #[true, true, true, true, true, true, true, true, true, false, false] rfl rfl (take_ofW HT_.out HW_.out (by kernel_rfl)) (fun _ _ _ h => h) (Or.inl ⟨by rfl, ?_⟩) hHeld ?_ ?_
                rotate_left
                · rintro w' ⟨s0, s1, s2, s3, s4, s5⟩
                  go_simp
                  with_reducible rfl
                rotate_left
                · simp only [Act.put, List.setIfInBounds_toArray, List.set_cons_zero, List.set_cons_succ, i64_w, i32_w]
                  rfl
                refine one_ (i := 9) (N := some 19) #[true, true, true, true, true, true, true, true, true, true, false] rfl rfl (one_of HT_.out (by kernel_rfl)) (by decide) (fun K hK => ?_)
                refine goes_ Try.func99 (by kernel_rfl) rfl #[.agg #[.int .i8 ((rd_T73 l0 (ji3)).f0), .int .i8 ((rd_T73 l0 (ji3)).f1), .int .i8 ((rd_T73 l0 (ji3)).f2)], .agg #[.int .i8 ((rd_T73 l0 x3_1).f0), .int .i8 ((rd_T73 l0 x3_1).f1), .int .i8 ((rd_T73 l0 x3_1).f2)]] (by rfl) rfl rfl (by (try simp only [List.map_toArray, List.map_cons, List.map_nil]); first | done | (simp only [hji3]; rfl) | rfl | (simp only [List.length_drop, List.length_take]; rfl)) ?_
                with_reducible refine (impl_mayLie.calls ((rd_T73 l0 (ji3)).f0) ((rd_T73 l0 (ji3)).f1) ((rd_T73 l0 (ji3)).f2) ((rd_T73 l0 x3_1).f0) ((rd_T73 l0 x3_1).f1) ((rd_T73 l0 x3_1).f2) true _ A7.out).mono ?_
                rintro e w10 ⟨rfl, hb⟩
                refine ⟨_, rfl, ?_⟩
                have n0_ := Aside0.mk (below_step (by repeat (first | (with_reducible first | exact HB.out | apply below_alloc | apply pw_below_drewN | apply below_drew1) | exact HB.out)) hb)
                clear HB
                have HB := n0_
                clear n0_
                (try clear hb)
                (try clear hb2)
                (try clear hk)
                (try clear hi)
                refine hK.out _ _ ⟨((HB.out.cell (World.block_lt_of_cell? w _ hw234_0)).trans hw234_0), ((HB.out.cell (World.block_lt_of_cell? w _ hw234_1)).trans hw234_1), ((HB.out.cell (World.block_lt_of_cell? w _ hw234_2)).trans hw234_2), ((HB.out.cell (World.block_lt_of_cell? w _ hw235_0)).trans hw235_0), ((HB.out.cell (World.block_lt_of_cell? w _ hw235_1)).trans hw235_1), ((HB.out.cell (World.block_lt_of_cell? w _ hw235_2)).trans hw235_2)⟩ (fun hHeld => ?_)
                clear hK K
                refine norm_ (a' := ?_) ?_ ?_
                rotate_left
                · show Act.put _ (some 19) _ = _
                  simp only [Act.put, List.setIfInBounds_toArray, List.set_cons_zero, List.set_cons_succ, i64_w, i32_w]
                  rfl
                refine pure_ (i := 10) (N := some 20) (v := ?_) (a' := ?_) #[true, true, true, true, true, true, true, true, true, true, true] rfl rfl (any_of HT_.out (by kernel_rfl)) (fun _ _ _ h => h) (Or.inl ⟨by rfl, ?_⟩) ?_ ?_
                rotate_left
                · intro w'
                  go_simp
                  with_reducible rfl
                rotate_left
                · simp only [Act.put, List.setIfInBounds_toArray, List.set_cons_zero, List.set_cons_succ, i64_w, i32_w]
                  rfl
                refine done_ (done_of HT_.out (by kernel_rfl)) ?_
                try go_wp2
                go_roundg k1
                case measure => have := HK1.out; omega
                case rel => exact ⟨(wrap64 (x3_1 + 1)), (by first | rfl | (simp; done) | (simp [*]; done)), H', ⟨by have := HK1.out; omega⟩, ⟨by repeat (first | (with_reducible first | exact HB.out | apply below_alloc | apply pw_below_drewN | apply below_drew1) | exact HB.out)⟩⟩
              · replace c8 := Bool.eq_false_iff.mpr c8
                subst c8
                have H1 : (some x3_1) = some r := by rw [if_neg (show ¬ (false = true) by decide)] at H; exact H
                clear H
                have H := H1
                clear H1
                obtain rfl := Option.some.inj H
                try go_wp2
                have n0_ := Aside0.mk (below_drew1 HB.out)
                clear HB
                have HB := n0_
                clear n0_
                have p234 : 0 ≤ ((ji3) : Int) := of_decide_eq_true (by first | (with_reducible assumption) | assumption)
                have q234 : (ji3) < (l0.length : Int) := of_decide_eq_true (by first | (with_reducible assumption) | assumption)
                obtain ⟨ad234, e234, hx234_0, hx234_1, hx234_2⟩ := at_T73 HR0.out (ji3) p234 q234
                have hw234_2 := hx234_2
                have hw234_1 := hx234_1
                have hw234_0 := hx234_0
                cases e234
                replace hx234_0 := (HB.out.cell (World.block_lt_of_cell? w _ hx234_0)).trans hx234_0
                replace hx234_1 := (HB.out.cell (World.block_lt_of_cell? w _ hx234_1)).trans hx234_1
                replace hx234_2 := (HB.out.cell (World.block_lt_of_cell? w _ hx234_2)).trans hx234_2
                replace p234 := eq_true p234
                replace q234 := eq_true q234
                have p235 : 0 ≤ (x3_1 : Int) := of_decide_eq_true (by first | (with_reducible assumption) | assumption)
                have q235 : x3_1 < (l0.length : Int) := of_decide_eq_true (by first | (with_reducible assumption) | assumption)
                obtain ⟨ad235, e235, hx235_0, hx235_1, hx235_2⟩ := at_T73 HR0.out x3_1 p235 q235
                have hw235_2 := hx235_2
                have hw235_1 := hx235_1
                have hw235_0 := hx235_0
                obtain rfl : ad234 = ad235 := (by injection e235)
                replace hx235_0 := (HB.out.cell (World.block_lt_of_cell? w _ hx235_0)).trans hx235_0
                replace hx235_1 := (HB.out.cell (World.block_lt_of_cell? w _ hx235_1)).trans hx235_1
                replace hx235_2 := (HB.out.cell (World.block_lt_of_cell? w _ hx235_2)).trans hx235_2
                replace p235 := eq_true p235
                replace q235 := eq_true q235
                refine start_ (n := 11) (S := fun w' => w'.cell? (ad234.add (((ji3)).toNat * 3)) = some (.int .i8 ((rd_T73 l0 (ji3)).f0)) ∧ w'.cell? ⟨(ad234.add (((ji3)).toNat * 3)).block, (ad234.add (((ji3)).toNat * 3)).off + 1, none⟩ = some (.int .i8 ((rd_T73 l0 (ji3)).f1)) ∧ w'.cell? ⟨(ad234.add (((ji3)).toNat * 3)).block, (ad234.add (((ji3)).toNat * 3)).off + 2, none⟩ = some (.int .i8 ((rd_T73 l0 (ji3)).f2)) ∧ w'.cell? (ad234.add ((x3_1).toNat * 3)) = some (.int .i8 ((rd_T73 l0 x3_1).f0)) ∧ w'.cell? ⟨(ad234.add ((x3_1).toNat * 3)).block, (ad234.add ((x3_1).toNat * 3)).off + 1, none⟩ = some (.int .i8 ((rd_T73 l0 x3_1).f1)) ∧ w'.cell? ⟨(ad234.add ((x3_1).toNat * 3)).block, (ad234.add ((x3_1).toNat * 3)).off + 2, none⟩ = some (.int .i8 ((rd_T73 l0 x3_1).f2))) (ds := []) #[false, false, false, false, false, false, false, false, false, false, false] (by kernel_rfl) rfl rfl ⟨((HB.out.cell (World.block_lt_of_cell? w _ hw234_0)).trans hw234_0), ((HB.out.cell (World.block_lt_of_cell? w _ hw234_1)).trans hw234_1), ((HB.out.cell (World.block_lt_of_cell? w _ hw234_2)).trans hw234_2), ((HB.out.cell (World.block_lt_of_cell? w _ hw235_0)).trans hw235_0), ((HB.out.cell (World.block_lt_of_cell? w _ hw235_1)).trans hw235_1), ((HB.out.cell (World.block_lt_of_cell? w _ hw235_2)).trans hw235_2)⟩ (fun hHeld => ?_); refine with_tabW impl_wrong.tab4 impl_wrong.bits4 (fun HT_ HW_ => ?_)
                generalize wr.drew = w11 at HB hx234_0 hx234_1 hx234_2 hx235_0 hx235_1 hx235_2 hHeld ⊢
                refine pure_ (i := 0) (N := some 10) (v := ?_) (a' := ?_) #[true, false, false, false, false, false, false, false, false, false, false] rfl rfl (any_of HT_.out (by kernel_rfl)) (fun _ _ _ h => h) (Or.inl ⟨by rfl, ?_⟩) ?_ ?_
                rotate_left
                · intro w'
                  go_simp
                  with_reducible rfl
                rotate_left
                · simp only [Act.put, List.setIfInBounds_toArray, List.set_cons_zero, List.set_cons_succ, i64_w, i32_w]
                  rfl
                refine pure_ (i := 1) (N := some 11) (v := ?_) (a' := ?_) #[true, true, false, false, false, false, false, false, false, false, false] rfl rfl (any_of HT_.out (by kernel_rfl)) (fun _ _ _ h => h) (Or.inl ⟨by rfl, ?_⟩) ?_ ?_
                rotate_left
                · intro w'
                  go_simp
                  with_reducible rfl
                rotate_left
                · simp only [Act.put, List.setIfInBounds_toArray, List.set_cons_zero, List.set_cons_succ, i64_w, i32_w]
                  rfl
                refine pure_ (i := 2) (N := some 12) (v := ?_) (a' := ?_) #[true, true, true, false, false, false, false, false, false, false, false] rfl rfl (any_of HT_.out (by kernel_rfl)) (fun _ _ _ h => h) (Or.inl ⟨by rfl, ?_⟩) ?_ ?_
                rotate_left
                · intro w'
                  go_simp
                  with_reducible rfl
                rotate_left
                · simp only [Act.put, List.setIfInBounds_toArray, List.set_cons_zero, List.set_cons_succ, i64_w, i32_w]
                  rfl
                refine pure_ (i := 3) (N := some 13) (v := ?_) (a' := ?_) #[true, true, true, true, false, false, false, false, false, false, false] rfl rfl (any_of HT_.out (by kernel_rfl)) (fun _ _ _ h => h) (Or.inl ⟨by rfl, ?_⟩) ?_ ?_
                rotate_left
                · intro w'
                  go_simp
                  with_reducible rfl
                rotate_left
                · simp only [Act.put, List.setIfInBounds_toArray, List.set_cons_zero, List.set_cons_succ, i64_w, i32_w]
                  rfl
                refine pure_ (i := 5) (N := some 15) (v := ?_) (a' := ?_) #[true, true, true, true, false, true, false, false, false, false, false] rfl rfl (any_of HT_.out (by kernel_rfl)) (fun _ _ _ h => h) (Or.inl ⟨by rfl, ?_⟩) ?_ ?_
                rotate_left
                · intro w'
                  go_simp
                  with_reducible rfl
                rotate_left
                · simp only [Act.put, List.setIfInBounds_toArray, List.set_cons_zero, List.set_cons_succ, i64_w, i32_w]
                  rfl
                refine pure_ (i := 6) (N := some 16) (v := ?_) (a' := ?_) #[true, true, true, true, false, true, true, false, false, false, false] rfl rfl (any_of HT_.out (by kernel_rfl)) (fun _ _ _ h => h) (Or.inl ⟨by rfl, ?_⟩) ?_ ?_
                rotate_left
                · intro w'
                  go_simp
                  with_reducible rfl
                rotate_left
                · simp only [Act.put, List.setIfInBounds_toArray, List.set_cons_zero, List.set_cons_succ, i64_w, i32_w]
                  rfl
                refine pure_ (i := 7) (N := some 17) (v := ?_) (a' := ?_) #[true, true, true, true, false, true, true, true, false, false, false] rfl rfl (any_of HT_.out (by kernel_rfl)) (fun _ _ _ h => h) (Or.inl ⟨by rfl, ?_⟩) ?_ ?_
                rotate_left
                · intro w'
                  go_simp
                  with_reducible rfl
                rotate_left
                · simp only [Act.put, List.setIfInBounds_toArray, List.set_cons_zero, List.set_cons_succ, i64_w, i32_w]
                  rfl
                refine take_ (i := 4) (N := some 14) (v := ?_) (a' := ?_) #[true, true, true, true, true, true, true, true, false, false, false] rfl rfl (take_ofW HT_.out HW_.out (by kernel_rfl)) (fun _ _ _ h => h) (Or.inl ⟨by rfl, ?_⟩) hHeld ?_ ?_
                rotate_left
                · rintro w' ⟨s0, s1, s2, s3, s4, s5⟩
                  go_simp
                  with_reducible rfl
                rotate_left
                · simp only [Act.put, List.setIfInBounds_toArray, List.set_cons_zero, List.set_cons_succ, i64_w, i32_w]
                  rfl
                refine take_ (i := 8) (N := some 18) (v := ?_) (a' := ?_) #[true, true, true, true, true, true, true, true, true, false, false] rfl rfl (take_ofW HT_.out HW_.out (by kernel_rfl)) (fun _ _ _ h => h) (Or.inl ⟨by rfl, ?_⟩) hHeld ?_ ?_
                rotate_left
                · rintro w' ⟨s0, s1, s2, s3, s4, s5⟩
                  go_simp
                  with_reducible rfl
                rotate_left
                · simp only [Act.put, List.setIfInBounds_toArray, List.set_cons_zero, List.set_cons_succ, i64_w, i32_w]
                  rfl
                refine one_ (i := 9) (N := some 19) #[true, true, true, true, true, true, true, true, true, true, false] rfl rfl (one_of HT_.out (by kernel_rfl)) (by decide) (fun K hK => ?_)
                refine goes_ Try.func99 (by kernel_rfl) rfl #[.agg #[.int .i8 ((rd_T73 l0 (ji3)).f0), .int .i8 ((rd_T73 l0 (ji3)).f1), .int .i8 ((rd_T73 l0 (ji3)).f2)], .agg #[.int .i8 ((rd_T73 l0 x3_1).f0), .int .i8 ((rd_T73 l0 x3_1).f1), .int .i8 ((rd_T73 l0 x3_1).f2)]] (by rfl) rfl rfl (by (try simp only [List.map_toArray, List.map_cons, List.map_nil]); first | done | (simp only [hji3]; rfl) | rfl | (simp only [List.length_drop, List.length_take]; rfl)) ?_
                with_reducible refine (impl_mayLie.calls ((rd_T73 l0 (ji3)).f0) ((rd_T73 l0 (ji3)).f1) ((rd_T73 l0 (ji3)).f2) ((rd_T73 l0 x3_1).f0) ((rd_T73 l0 x3_1).f1) ((rd_T73 l0 x3_1).f2) false _ A7.out).mono ?_
                rintro e w12 ⟨rfl, hb⟩
                refine ⟨_, rfl, ?_⟩
                have n0_ := Aside0.mk (below_step (by repeat (first | (with_reducible first | exact HB.out | apply below_alloc | apply pw_below_drewN | apply below_drew1) | exact HB.out)) hb)
                clear HB
                have HB := n0_
                clear n0_
                (try clear hb)
                (try clear hb2)
                (try clear hk)
                (try clear hi)
                refine hK.out _ _ ⟨((HB.out.cell (World.block_lt_of_cell? w _ hw234_0)).trans hw234_0), ((HB.out.cell (World.block_lt_of_cell? w _ hw234_1)).trans hw234_1), ((HB.out.cell (World.block_lt_of_cell? w _ hw234_2)).trans hw234_2), ((HB.out.cell (World.block_lt_of_cell? w _ hw235_0)).trans hw235_0), ((HB.out.cell (World.block_lt_of_cell? w _ hw235_1)).trans hw235_1), ((HB.out.cell (World.block_lt_of_cell? w _ hw235_2)).trans hw235_2)⟩ (fun hHeld => ?_)
                clear hK K
                refine norm_ (a' := ?_) ?_ ?_
                rotate_left
                · show Act.put _ (some 19) _ = _
                  simp only [Act.put, List.setIfInBounds_toArray, List.set_cons_zero, List.set_cons_succ, i64_w, i32_w]
                  rfl
                refine pure_ (i := 10) (N := some 20) (v := ?_) (a' := ?_) #[true, true, true, true, true, true, true, true, true, true, true] rfl rfl (any_of HT_.out (by kernel_rfl)) (fun _ _ _ h => h) (Or.inl ⟨by rfl, ?_⟩) ?_ ?_
                rotate_left
                · intro w'
                  go_simp
                  with_reducible rfl
                rotate_left
                · simp only [Act.put, List.setIfInBounds_toArray, List.set_cons_zero, List.set_cons_succ, i64_w, i32_w]
                  rfl
                refine done_ (done_of HT_.out (by kernel_rfl)) ?_
                try go_wp2
                go_ret
                exact ⟨by first | rfl | (simp [errW_none, errW_some] <;> rfl) | (simp only [← hji3]; first | rfl | (simp [errW_none, errW_some] <;> rfl)) | (simp [*, errW_none, errW_some] <;> rfl), by repeat (first | (with_reducible first | exact HB.out | apply below_alloc | apply pw_below_drewN | apply below_drew1) | exact HB.out)⟩
            · rw [if_neg c6] at H
              exact absurd H (by simp)
          · rw [if_neg c5] at H
            exact absurd H (by simp)
        · rw [if_neg c4] at H
          exact absurd H (by simp)
      · rw [if_neg c2] at H
        have c2b0 : decide (x3_1 < (l0.length : Int)) = false := decide_eq_false c2
        clear c2
        obtain rfl := Option.some.inj H
        go_wp2
        go_ret
        exact ⟨by first | rfl | (simp [errW_none, errW_some] <;> rfl) | (simp [*, errW_none, errW_some] <;> rfl), by repeat (first | (with_reducible first | exact HB.out | apply below_alloc | apply pw_below_drewN | apply below_drew1) | exact HB.out)⟩

end Go.Proofs.Ytjcdgimldhodiaa.PFnExactLeastMoves
