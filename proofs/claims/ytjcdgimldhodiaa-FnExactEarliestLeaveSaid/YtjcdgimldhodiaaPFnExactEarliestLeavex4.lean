/- Printed by this session's plus.py out of the translation, some functions' texts being this session's own. -/
import Derived.Test.YtjcdgimldhodiaaPFnExactEarliestLeavex0
import Derived.Test.YtjcdgimldhodiaaPFnExactEarliestLeavex3
namespace Go.Proofs.Ytjcdgimldhodiaa.PFnExactEarliestLeave
open Go.RowKit Go.Proofs.YtjcdgimldhodiaaW.PrintWords Go.Proofs.YtjcdgimldhodiaaW.PrintLast Go.Proofs.YtjcdgimldhodiaaW.PrintMore
attribute [local go_sem] max2_int min2_int max_two min_two max_three min_three max_four min_four   -- for this text's walks alone
set_option linter.unusedVariables false
set_option linter.unusedSimpArgs false

/-! ### spec_l03Over: function 53: this session's own text -/
theorem cell_of_ints {w : World} {g t : Nat} {k : IntKind} {xs : List Int} (h : w.heap[g]? = some (.cells (xs.map (Value.int k)).toArray t (0, 0))) {i : Int} (hi : i.toNat < xs.length) : w.cell? ⟨g, i.toNat, none⟩ = some (.int k (rd xs i)) := by
  rw [blk_cell h]
  simp [rd, List.getD_eq_getElem?_getD, List.getElem?_eq_getElem hi]
theorem ints_put {w : World} {g t : Nat} {k : IntKind} {xs : List Int} (h : w.heap[g]? = some (.cells (xs.map (Value.int k)).toArray t (0, 0))) (i : Nat) (u : Int) : (w.setCell ⟨g, i, none⟩ (.int k u)).heap[g]? = some (.cells ((xs.set i u).map (Value.int k)).toArray t (0, 0)) :=
  blk_put h i _ (by simp [List.map_set])
theorem drop_rd {α : Type} {xs : List α} {i : Int} (d : α) (h0 : 0 ≤ i) (h : i < (xs.length : Int)) : xs.drop i.toNat = xs.getD i.toNat d :: xs.drop (i + 1).toNat := by
  rw [show (i + 1).toNat = i.toNat + 1 by omega, List.drop_eq_getElem_cons (by omega), List.getD_eq_getElem?_getD, List.getElem?_eq_getElem (by omega)]
  rfl
theorem w64_in {a : Int} (h0 : -9223372036854775808 ≤ a) (h1 : a ≤ 9223372036854775807) : wrap64 a = a := by unfold wrap64; omega
theorem wi64 {a : Int} (h0 : -9223372036854775808 ≤ a) (h1 : a ≤ 9223372036854775807) : IntKind.i64.wrap a = a := by
  have : IntKind.i64.wrap a = if a % 18446744073709551616 ≥ 9223372036854775808 then a % 18446744073709551616 - 18446744073709551616 else a % 18446744073709551616 := by
    simp [IntKind.wrap, IntKind.signed, IntKind.bits]
  rw [this]
  split <;> omega

/-- W' is W but for the blocks that S tells, and for new ones. -/
structure Only (S : Nat → Prop) (W W' : World) : Prop where
  os : W'.os = W.os
  tape : W'.tape = W.tape
  output : W'.output = W.output
  size : W.heap.size ≤ W'.heap.size
  block : ∀ b, b < W.heap.size → ¬ S b → W'.heap[b]? = W.heap[b]?
theorem Only.refl (S : Nat → Prop) (W : World) : Only S W W := ⟨rfl, rfl, rfl, Nat.le_refl _, fun _ _ _ => rfl⟩
theorem Only.trans {S : Nat → Prop} {a b c : World} (h : Only S a b) (k : Only S b c) : Only S a c :=
  ⟨k.os.trans h.os, k.tape.trans h.tape, k.output.trans h.output, Nat.le_trans h.size k.size, fun i hi hs => (k.block i (Nat.lt_of_lt_of_le hi h.size) hs).trans (h.block i hi hs)⟩
theorem Only.mono {S S' : Nat → Prop} {a b : World} (h : Only S a b) (hs : ∀ i, S i → S' i) : Only S' a b := ⟨h.os, h.tape, h.output, h.size, fun i hi hn => h.block i hi (fun g => hn (hs i g))⟩
theorem Only.of_below {S : Nat → Prop} {a b : World} (h : Below a.heap.size a b) : Only S a b := ⟨h.os, h.tape, h.output, h.size, fun i hi _ => h.block i hi⟩
theorem Only.set {S : Nat → Prop} {a b : World} (h : Only S a b) {g : Nat} (hg : S g) (j : Nat) (v : Value) : Only S a (b.setCell ⟨g, j, none⟩ v) :=
  h.trans ⟨rfl, rfl, rfl, by simp [World.setCell], fun i hi hn => Below.heap_setCell _ _ _ _ (fun e => hn (by subst e; exact hg))⟩
theorem Only.alloc {S : Nat → Prop} {a b : World} (h : Only S a b) (o : Obj) : Only S a (b.alloc o) := h.trans (Only.of_below ((Below.refl _ _).alloc (Nat.le_refl _) o))
theorem Only.drewN {S : Nat → Prop} {a b : World} (h : Only S a b) (n : Nat) : Only S a (b.drewN n) := h.trans (Only.of_below (pw_below_drewN (Below.refl _ _) n))
theorem Only.drew {S : Nat → Prop} {a b : World} (h : Only S a b) : Only S a b.drew := h.trans (Only.of_below (below_drew (Below.refl _ _)))
theorem Only.blk {S : Nat → Prop} {a b : World} (h : Only S a b) {g : Nat} {o : Obj} (ho : a.heap[g]? = some o) (hg : ¬ S g) : b.heap[g]? = some o := (h.block g (blk_lt ho) hg).trans ho
theorem Only.below {S : Nat → Prop} {w a b : World} {B : Nat} (hb : Below B w a) (h : Only S a b) (hB : B ≤ a.heap.size) (hs : ∀ i, S i → B ≤ i) : Below B w b :=
  hb.trans ⟨h.os, h.tape, h.output, h.size, fun i hi => h.block i (by omega) (fun g => by have := hs i g; omega)⟩
theorem Only.to_below {S : Nat → Prop} {a b : World} (h : Only S a b) (hs : ∀ i, ¬ S i) : Below a.heap.size a b := ⟨h.os, h.tape, h.output, h.size, fun i hi => h.block i hi (hs i)⟩

/-- One cover more in the masks. -/
def orS (m : List Int) (x : S64) : List Int := m.set x.f1.toNat (Go.bits .or .u16 (rd m x.f1) (IntKind.u16.wrap (2 ^ min (IntKind.u64.wrap x.f0).toNat 16)))
/-- The masks of what lies over each chain. -/
def maskL (l : List S64) : List Int := l.foldl orS [0, 0, 0, 0, 0, 0, 0, 0, 0, 0, 0, 0]
theorem orS_length (m : List Int) (x : S64) : (orS m x).length = m.length := by simp [orS]
def spec_l03Over.f (l0 : List S64) : Option Bool := if l0.length ≤ 1048576 ∧ ∀ x ∈ l0, (0 ≤ x.f0 ∧ x.f0 < 12) ∧ (0 ≤ x.f1 ∧ x.f1 < 12) then some true else none
set_option maxHeartbeats 4000000 in
set_option maxRecDepth 100000 in
theorem spec_l03Over.calls (A0 : Option Addr) (c0 : Nat) (l0 : List (S64)) (w : World) (hr0 : Kd.C k64 w A0 l0.length l0) (hc0 : l0.length ≤ c0) (h : spec_l03Over.f l0 = some true) :
    Calls Try.prog 53 #[.slice A0 l0.length c0] w fun e w' => e = .returned (.agg ((maskL l0).map (Value.int .u16)).toArray) ∧ Below w.heap.size w w' := by
  unfold spec_l03Over.f at h
  by_cases hh : l0.length ≤ 1048576 ∧ ∀ x ∈ l0, (0 ≤ x.f0 ∧ x.f0 < 12) ∧ (0 ≤ x.f1 ∧ x.f1 < 12)
  · clear h
    have HH := Aside0.mk hh
    have HR0 := Aside0.mk hr0
    have HC0 := Aside0.mk hc0
    have HB := Aside0.mk (Below.refl w.heap.size w)
    clear hh hr0 hc0
    go_enter Try.func53, Try.ntmps53
    go_wp2
    go_loopg [4] l0.length (fun gk v4 w' => ∃ x : Nat, v4 = .int .i64 x ∧ Aside0 (x + gk = l0.length) ∧ Aside0 (w'.heap[w.heap.size + 1]? = some (.cells ((maskL (l0.take x)).map (Value.int .u16)).toArray 59 (0, 0))) ∧ Aside0 (w'.heap[w.heap.size]? = some (.cells (([0, 0, 0, 0, 0, 0, 0, 0, 0, 0, 0, 0] : List Int).map (Value.int .u16)).toArray 59 (0, 0))) ∧ Aside0 (Below w.heap.size w w'))
    case atStart =>
      have s1 : (w.alloc (.cells #[.int .u16 0, .int .u16 0, .int .u16 0, .int .u16 0, .int .u16 0, .int .u16 0, .int .u16 0, .int .u16 0, .int .u16 0, .int .u16 0, .int .u16 0, .int .u16 0] 59)).heap.size = w.heap.size + 1 := by simp
      have b1 := blk_new (w.alloc (.cells #[.int .u16 0, .int .u16 0, .int .u16 0, .int .u16 0, .int .u16 0, .int .u16 0, .int .u16 0, .int .u16 0, .int .u16 0, .int .u16 0, .int .u16 0, .int .u16 0] 59)) (.cells #[.int .u16 0, .int .u16 0, .int .u16 0, .int .u16 0, .int .u16 0, .int .u16 0, .int .u16 0, .int .u16 0, .int .u16 0, .int .u16 0, .int .u16 0, .int .u16 0] 59)
      rw [s1] at b1
      exact ⟨0, rfl, ⟨by omega⟩, ⟨b1⟩, ⟨blk_alloc (blk_new w _) _⟩, ⟨below_alloc (below_alloc HB.out _) _⟩⟩
    case round =>
      clear HB
      obtain ⟨x, rfl, HK, HS, HZ, HB⟩ := hrel
      by_cases c3 : (x : Int) < (l0.length : Int)
      · have p0 : 0 ≤ (x : Int) := by omega
        have hxn : x < l0.length := by omega
        obtain ⟨ad0, e0, hx0_0, hx0_1⟩ := at_T64 HR0.out x p0 c3
        cases e0
        replace hx0_0 := (HB.out.cell (World.block_lt_of_cell? w _ hx0_0)).trans hx0_0
        replace hx0_1 := (HB.out.cell (World.block_lt_of_cell? w _ hx0_1)).trans hx0_1
        simp only [Int.toNat_natCast] at hx0_0 hx0_1
        have hrd : rd_T64 l0 x = l0[x] := by rw [rd_T64, Int.toNat_natCast, List.getD_eq_getElem?_getD, List.getElem?_eq_getElem hxn]; rfl
        have hin := HH.out.2 l0[x] (List.getElem_mem hxn)
        rw [hrd] at hx0_0 hx0_1
        obtain ⟨u, hun⟩ : ∃ u : Nat, l0[x].f1 = (u : Int) := ⟨l0[x].f1.toNat, by omega⟩
        obtain ⟨v, hvn⟩ : ∃ v : Int, l0[x].f0 = v := ⟨_, rfl⟩
        rw [hun] at hx0_1
        rw [hvn] at hx0_0
        have hu12 : (u : Int) < 12 := by omega
        obtain ⟨m, hm⟩ : ∃ m, m = maskL (l0.take x) := ⟨_, rfl⟩
        have HSm := HS.out
        rw [← hm] at HSm
        have hml : m.length = 12 := by
          have key : ∀ (l : List S64) (m : List Int), (l.foldl orS m).length = m.length := by
            intro l
            induction l with
            | nil => intro m; rfl
            | cons y l ih => intro m; rw [List.foldl_cons, ih, orS_length]
          rw [hm]; exact key _ _
        have hs : wr.cell? ⟨w.heap.size + 1, u, none⟩ = some (.int .u16 (rd m (u : Int))) := by
          have := cell_of_ints HSm (i := (u : Int)) (by rw [hml, Int.toNat_natCast]; omega)
          rwa [Int.toNat_natCast] at this
        have hfz : wr.frozen? ⟨w.heap.size + 1, u, none⟩ = false := blk_frozen HSm u
        have HM : Aside0 (maskL (l0.take (x + 1)) = m.set u (Go.bits .or .u16 (rd m (u : Int)) (IntKind.u16.wrap (2 ^ min (IntKind.u64.wrap v).toNat 16)))) := ⟨by
          rw [List.take_succ_eq_append_getElem hxn]
          unfold maskL at hm ⊢
          rw [List.foldl_append, ← hm]
          show orS m l0[x] = _
          unfold orS
          rw [hun, hvn, Int.toNat_natCast]⟩
        have HSM := Aside0.mk HSm
        have HV : Aside0 (0 ≤ v ∧ v < 12) := ⟨by omega⟩
        have HX : Aside0 (wrap64 ((x : Int) + 1) = ((x + 1 : Nat) : Int)) := ⟨by have := HH.out.1; unfold wrap64; omega⟩
        have c3b : decide ((x : Int) < (l0.length : Int)) = true := decide_eq_true c3
        have c3n : decide (x < l0.length) = true := decide_eq_true hxn
        have p0b : decide (0 ≤ (x : Int)) = true := decide_eq_true p0
        have hu := Try.underlying64
        clear p0 hrd hin hun hvn hm hml HSm
        go_wp2
        go_region
        all_goals go_wp2
        all_goals
          go_roundg (gk - 1)
          case measure => have := HK.out; omega
          case rel =>
            exact ⟨x + 1, by first | rfl | rw [HX.out], ⟨by have := HK.out; omega⟩, ⟨by rw [HM.out]; exact blk_drew (ints_put HSM.out u _)⟩, ⟨blk_drew (blk_far HZ.out (show w.heap.size ≠ w.heap.size + 1 by omega) _)⟩, ⟨below_drew (HB.out.setCell (show w.heap.size ≤ w.heap.size + 1 by omega) _)⟩⟩
      · have c3b : decide ((x : Int) < (l0.length : Int)) = false := decide_eq_false c3
        have c3n : decide (x < l0.length) = false := decide_eq_false (by omega)
        have hx : l0.take x = l0 := List.take_of_length_le (by omega)
        have hml : (maskL l0).length = 12 := by
          have key : ∀ (l : List S64) (m : List Int), (l.foldl orS m).length = m.length := by
            intro l
            induction l with
            | nil => intro m; rfl
            | cons y l ih => intro m; rw [List.foldl_cons, ih, orS_length]
          exact key _ _
        have HSm := HS.out
        rw [hx] at HSm
        obtain ⟨m, hm⟩ : ∃ m, m = maskL l0 := ⟨_, rfl⟩
        rw [← hm] at HSm hml
        obtain ⟨v0, v1, v2, v3, v4, v5, v6, v7, v8, v9, v10, v11, rfl⟩ : ∃ v0 v1 v2 v3 v4 v5 v6 v7 v8 v9 v10 v11 : Int, m = [v0, v1, v2, v3, v4, v5, v6, v7, v8, v9, v10, v11] := by
          match m, hml with
          | [v0, v1, v2, v3, v4, v5, v6, v7, v8, v9, v10, v11], _ => exact ⟨v0, v1, v2, v3, v4, v5, v6, v7, v8, v9, v10, v11, rfl⟩
        have hc0 : wr.cell? ⟨w.heap.size + 1, 0, none⟩ = some (.int .u16 v0) := blk_cell HSm 0
        have hz0 : wr.cell? ⟨w.heap.size, 0, none⟩ = some (.int .u16 0) := blk_cell HZ.out 0
        have hc1 : wr.cell? ⟨w.heap.size + 1, 1, none⟩ = some (.int .u16 v1) := blk_cell HSm 1
        have hz1 : wr.cell? ⟨w.heap.size, 1, none⟩ = some (.int .u16 0) := blk_cell HZ.out 1
        have hc2 : wr.cell? ⟨w.heap.size + 1, 2, none⟩ = some (.int .u16 v2) := blk_cell HSm 2
        have hz2 : wr.cell? ⟨w.heap.size, 2, none⟩ = some (.int .u16 0) := blk_cell HZ.out 2
        have hc3 : wr.cell? ⟨w.heap.size + 1, 3, none⟩ = some (.int .u16 v3) := blk_cell HSm 3
        have hz3 : wr.cell? ⟨w.heap.size, 3, none⟩ = some (.int .u16 0) := blk_cell HZ.out 3
        have hc4 : wr.cell? ⟨w.heap.size + 1, 4, none⟩ = some (.int .u16 v4) := blk_cell HSm 4
        have hz4 : wr.cell? ⟨w.heap.size, 4, none⟩ = some (.int .u16 0) := blk_cell HZ.out 4
        have hc5 : wr.cell? ⟨w.heap.size + 1, 5, none⟩ = some (.int .u16 v5) := blk_cell HSm 5
        have hz5 : wr.cell? ⟨w.heap.size, 5, none⟩ = some (.int .u16 0) := blk_cell HZ.out 5
        have hc6 : wr.cell? ⟨w.heap.size + 1, 6, none⟩ = some (.int .u16 v6) := blk_cell HSm 6
        have hz6 : wr.cell? ⟨w.heap.size, 6, none⟩ = some (.int .u16 0) := blk_cell HZ.out 6
        have hc7 : wr.cell? ⟨w.heap.size + 1, 7, none⟩ = some (.int .u16 v7) := blk_cell HSm 7
        have hz7 : wr.cell? ⟨w.heap.size, 7, none⟩ = some (.int .u16 0) := blk_cell HZ.out 7
        have hc8 : wr.cell? ⟨w.heap.size + 1, 8, none⟩ = some (.int .u16 v8) := blk_cell HSm 8
        have hz8 : wr.cell? ⟨w.heap.size, 8, none⟩ = some (.int .u16 0) := blk_cell HZ.out 8
        have hc9 : wr.cell? ⟨w.heap.size + 1, 9, none⟩ = some (.int .u16 v9) := blk_cell HSm 9
        have hz9 : wr.cell? ⟨w.heap.size, 9, none⟩ = some (.int .u16 0) := blk_cell HZ.out 9
        have hc10 : wr.cell? ⟨w.heap.size + 1, 10, none⟩ = some (.int .u16 v10) := blk_cell HSm 10
        have hz10 : wr.cell? ⟨w.heap.size, 10, none⟩ = some (.int .u16 0) := blk_cell HZ.out 10
        have hc11 : wr.cell? ⟨w.heap.size + 1, 11, none⟩ = some (.int .u16 v11) := blk_cell HSm 11
        have hz11 : wr.cell? ⟨w.heap.size, 11, none⟩ = some (.int .u16 0) := blk_cell HZ.out 11
        have hf : ∀ j, wr.frozen? ⟨w.heap.size, j, none⟩ = false := fun j => blk_frozen HZ.out j
        have HM := Aside0.mk hm
        clear c3 hm hml HSm
        go_wp2
        have hw := (ints_put (ints_put (ints_put (ints_put (ints_put (ints_put (ints_put (ints_put (ints_put (ints_put (ints_put (ints_put HZ.out 0 v0) 1 v1) 2 v2) 3 v3) 4 v4) 5 v5) 6 v6) 7 v7) 8 v8) 9 v9) 10 v10) 11 v11)
        rw [show ((((((((((((([0, 0, 0, 0, 0, 0, 0, 0, 0, 0, 0, 0] : List Int).set 0 v0).set 1 v1).set 2 v2).set 3 v3).set 4 v4).set 5 v5).set 6 v6).set 7 v7).set 8 v8).set 9 v9).set 10 v10).set 11 v11) = [v0, v1, v2, v3, v4, v5, v6, v7, v8, v9, v10, v11] from rfl] at hw
        have hO := (Only.set (S := (· = w.heap.size)) (Only.set (S := (· = w.heap.size)) (Only.set (S := (· = w.heap.size)) (Only.set (S := (· = w.heap.size)) (Only.set (S := (· = w.heap.size)) (Only.set (S := (· = w.heap.size)) (Only.set (S := (· = w.heap.size)) (Only.set (S := (· = w.heap.size)) (Only.set (S := (· = w.heap.size)) (Only.set (S := (· = w.heap.size)) (Only.set (S := (· = w.heap.size)) (Only.set (S := (· = w.heap.size)) (Only.refl (· = w.heap.size) wr) rfl 0 (.int .u16 v0)) rfl 1 (.int .u16 v1)) rfl 2 (.int .u16 v2)) rfl 3 (.int .u16 v3)) rfl 4 (.int .u16 v4)) rfl 5 (.int .u16 v5)) rfl 6 (.int .u16 v6)) rfl 7 (.int .u16 v7)) rfl 8 (.int .u16 v8)) rfl 9 (.int .u16 v9)) rfl 10 (.int .u16 v10)) rfl 11 (.int .u16 v11))
        obtain ⟨Wf, hWf⟩ : ∃ W', W' = ((((((((((((wr.setCell ⟨w.heap.size, 0, none⟩ (.int .u16 v0)).setCell ⟨w.heap.size, 1, none⟩ (.int .u16 v1)).setCell ⟨w.heap.size, 2, none⟩ (.int .u16 v2)).setCell ⟨w.heap.size, 3, none⟩ (.int .u16 v3)).setCell ⟨w.heap.size, 4, none⟩ (.int .u16 v4)).setCell ⟨w.heap.size, 5, none⟩ (.int .u16 v5)).setCell ⟨w.heap.size, 6, none⟩ (.int .u16 v6)).setCell ⟨w.heap.size, 7, none⟩ (.int .u16 v7)).setCell ⟨w.heap.size, 8, none⟩ (.int .u16 v8)).setCell ⟨w.heap.size, 9, none⟩ (.int .u16 v9)).setCell ⟨w.heap.size, 10, none⟩ (.int .u16 v10)).setCell ⟨w.heap.size, 11, none⟩ (.int .u16 v11)) := ⟨_, rfl⟩
        rw [← hWf] at hw hO ⊢
        clear hWf
        have hr0 : Wf.cell? ⟨w.heap.size, 0, none⟩ = some (.int .u16 v0) := blk_cell hw 0
        have hr1 : Wf.cell? ⟨w.heap.size, 1, none⟩ = some (.int .u16 v1) := blk_cell hw 1
        have hr2 : Wf.cell? ⟨w.heap.size, 2, none⟩ = some (.int .u16 v2) := blk_cell hw 2
        have hr3 : Wf.cell? ⟨w.heap.size, 3, none⟩ = some (.int .u16 v3) := blk_cell hw 3
        have hr4 : Wf.cell? ⟨w.heap.size, 4, none⟩ = some (.int .u16 v4) := blk_cell hw 4
        have hr5 : Wf.cell? ⟨w.heap.size, 5, none⟩ = some (.int .u16 v5) := blk_cell hw 5
        have hr6 : Wf.cell? ⟨w.heap.size, 6, none⟩ = some (.int .u16 v6) := blk_cell hw 6
        have hr7 : Wf.cell? ⟨w.heap.size, 7, none⟩ = some (.int .u16 v7) := blk_cell hw 7
        have hr8 : Wf.cell? ⟨w.heap.size, 8, none⟩ = some (.int .u16 v8) := blk_cell hw 8
        have hr9 : Wf.cell? ⟨w.heap.size, 9, none⟩ = some (.int .u16 v9) := blk_cell hw 9
        have hr10 : Wf.cell? ⟨w.heap.size, 10, none⟩ = some (.int .u16 v10) := blk_cell hw 10
        have hr11 : Wf.cell? ⟨w.heap.size, 11, none⟩ = some (.int .u16 v11) := blk_cell hw 11
        have HO := Aside0.mk hO
        clear hw hO hf hc0 hz0 hc1 hz1 hc2 hz2 hc3 hz3 hc4 hz4 hc5 hz5 hc6 hz6 hc7 hz7 hc8 hz8 hc9 hz9 hc10 hz10 hc11 hz11
        exact bodyPost_ret (v := .agg #[.int .u16 v0, .int .u16 v1, .int .u16 v2, .int .u16 v3, .int .u16 v4, .int .u16 v5, .int .u16 v6, .int .u16 v7, .int .u16 v8, .int .u16 v9, .int .u16 v10, .int .u16 v11]) (by simp [results, Try.results53, go_sem, hr0, hr1, hr2, hr3, hr4, hr5, hr6, hr7, hr8, hr9, hr10, hr11]) rfl ⟨by rw [← HM.out]; rfl, Only.below HB.out HO.out HB.out.size (fun i hi => by subst hi; omega)⟩
  · rw [if_neg hh] at h; cases h

/-! ### spec_l03List: function 54 -/
def spec_l03List.l0 : Nat → Int → List Int → Int → Option (List Int)
  | 0, _, _, _ => none
  | k + 1, x0, x3, x4 => if x4 < 12 then (if 0 ≤ (IntKind.u64.wrap (x4)) then (if (Go.bits .and .u16 (shr .u16 x0 (IntKind.u64.wrap (x4))) 1) = 1 then (if x3.length < 17592186044416 then (spec_l03List.l0 k x0 (x3 ++ [x4]) (wrap64 (x4 + 1))) else (none)) else (spec_l03List.l0 k x0 x3 (wrap64 (x4 + 1)))) else (none)) else (some x3)
def spec_l03List.f (k : Nat) (a0 : Int) : Option (List Int) := spec_l03List.l0 k a0 (([] : List Int)) 0
theorem spec_l03List.mono_l : ∀ k, (∀ y0 y1 y2, LeO (spec_l03List.l0 k y0 y1 y2) (spec_l03List.l0 (k + 1) y0 y1 y2))
  | 0 => fun _ _ _ r h => by simp [spec_l03List.l0] at h
  | k + 1 => by
    have ih0 := spec_l03List.mono_l k
    · intro y0 y1 y2
      unfold spec_l03List.l0
      repeat' first
      | (with_reducible exact ih0 _ _ _)
      | (with_reducible exact LeO.refl _)
      | (with_reducible exact LeO.none _)
      | (with_reducible refine LeO.ite ?_ ?_)
      | (with_reducible refine LeO.bind ?_ (fun _ => ?_))
      | exact ih0 _ _ _
      | exact LeO.none _
      | refine LeO.ite ?_ ?_
      | refine LeO.bind ?_ (fun _ => ?_)
theorem spec_l03List.mono : ∀ a0 k, LeO (spec_l03List.f k a0) (spec_l03List.f (k + 1) a0) := by
  intro a0 k
  have ih0 := spec_l03List.mono_l k
  unfold spec_l03List.f
  repeat' first
      | (with_reducible exact ih0 _ _ _)
      | (with_reducible exact LeO.refl _)
      | (with_reducible exact LeO.none _)
      | (with_reducible refine LeO.ite ?_ ?_)
      | (with_reducible refine LeO.bind ?_ (fun _ => ?_))
      | exact ih0 _ _ _
      | exact LeO.none _
      | refine LeO.ite ?_ ?_
      | refine LeO.bind ?_ (fun _ => ?_)
set_option maxHeartbeats 8000000 in
set_option maxRecDepth 100000 in
theorem spec_l03List.calls (k : Nat) (a0 : Int) (r : List Int) (w : World) (h : spec_l03List.f k a0 = some r) :
    Calls Try.prog 54 #[.int .u16 a0] w fun e w' => ∃ v0_ : Value, e = .returned (v0_) ∧ Kd.R (Kd.int .i64) 2 w' w.heap.size (fun _ => True) v0_ r ∧ Below w.heap.size w w' := by
  have HB := Aside0.mk (Below.refl w.heap.size w)
  have H : (spec_l03List.l0 k a0 (([] : List Int)) 0) = some r := h
  clear h
  obtain ⟨y129, hy129⟩ : ∃ y_ : List Int, y_ = (([] : List Int)) := ⟨_, rfl⟩
  replace H : (spec_l03List.l0 k a0 y129 0) = some r := by first | (rw [hy129]; with_reducible exact H) | (have H2_ := (Option.bind_some _ _).symm.trans H; rw [hy129]; with_reducible exact H2_) | (have H2_ := (Option.bind_some _ _).symm.trans H; with_reducible exact H2_) | with_reducible exact H | (rw [hy129]; exact H) | exact H
  have Ny129 := Aside0.mk hy129
  clear hy129
  have H' := Aside0.mk H
  clear H
  go_enter Try.func54, Try.ntmps54
  go_wp2_with (first | ((with_reducible refine gate_dst (N := 5) rfl ?_); refine Kd.R_lit (Kd.int .i64) _ 2 ?hg (N := 5) ?hd (xs := ([] : List Int)) (inner := []) (ok := fun _ => True) (okp := fun _ => True) ?hr ?hp (fun _ hk => hk) trivial (Below.refl _ _) (Nat.le_refl _) (by simp) ?_; (case hd => rfl); (case hg => rfl); (case hr => first | (go_simp; done) | (go_simp; rfl)); (case hp => exact (Reps.none _ _)); intro v130 w2 ho3 hb hg_ hnew_; clear hg_ hnew_; (first | rw [← Ny129.out] at ho3 | (simp only [Int.reduceToNat] at ho3; rw [← Ny129.out] at ho3)); have n0_ := Aside0.mk (Kd.R_lower ho3 (below_size (by repeat (first | (with_reducible first | exact HB.out | apply below_alloc | apply pw_below_drewN | apply below_drew1) | exact HB.out)))); have n1_ := Aside0.mk (below_step (by repeat (first | (with_reducible first | exact HB.out | apply below_alloc | apply pw_below_drewN | apply below_drew1) | exact HB.out)) hb); clear HB; have HO131 := n0_; have HB := n1_; clear n0_ n1_; clear hb ho3))
  go_loopg [3, 4] k (fun kq v3 v4 w' => ∃ (x3_1 : List Int) (x4_1 : Int), v4 = .int .i64 x4_1 ∧ Aside0 (spec_l03List.l0 kq a0 x3_1 x4_1 = some r) ∧ Aside0 (kq ≤ k) ∧ Aside0 (Kd.R (Kd.int .i64) 2 w' w.heap.size (fun _ => True) v3 x3_1) ∧ Aside0 (Below w.heap.size w w'))
  case atStart => exact ⟨(y129), (0), (by first | rfl | (simp; done) | (simp [*]; done)), H', ⟨Nat.le_refl _⟩, ⟨by (with_reducible repeat (first | apply Kd.R_alloc | apply Kd.R_drewN | apply Kd.R_drew)); exact HO131.out⟩, ⟨by repeat (first | (with_reducible first | exact HB.out | apply below_alloc | apply pw_below_drewN | apply below_drew1) | exact HB.out)⟩⟩
  case round =>
    clear H'
    try clear p2
    obtain ⟨x3_1, x4_1, rfl, HA, HK1, HO_3, HB⟩ := hrel
    cases gk with
    | zero => exact absurd HA.out (by simp [spec_l03List.l0])
    | succ k1 =>
      have H := HA.out
      clear HA
      simp only [spec_l03List.l0] at H
      by_cases c4 : x4_1 < 12
      · rw [if_pos c4] at H
        have c4b0 : decide (x4_1 < 12) = true := decide_eq_true c4
        clear c4
        obtain ⟨ji5, hji5⟩ : ∃ j_ : Int, (IntKind.u64.wrap (x4_1)) = j_ := ⟨_, rfl⟩
        replace H : (if 0 ≤ (ji5) then (if (Go.bits .and .u16 (shr .u16 a0 (ji5)) 1) = 1 then (if x3_1.length < 17592186044416 then (spec_l03List.l0 k1 a0 (x3_1 ++ [x4_1]) (wrap64 (x4_1 + 1))) else (none)) else (spec_l03List.l0 k1 a0 x3_1 (wrap64 (x4_1 + 1)))) else (none)) = some r := by first | (rw [hji5] at H; exact H) | (simp only [hji5] at H ⊢; exact H)
        by_cases c6 : 0 ≤ (ji5)
        · rw [if_pos c6] at H
          have c6b0 := eq_true c6
          have c6b1 : decide (0 ≤ (ji5)) = true := decide_eq_true c6
          clear c6
          obtain ⟨ji7, hji7⟩ : ∃ j_ : Int, (shr .u16 a0 (ji5)) = j_ := ⟨_, rfl⟩
          replace H : (if (Go.bits .and .u16 (ji7) 1) = 1 then (if x3_1.length < 17592186044416 then (spec_l03List.l0 k1 a0 (x3_1 ++ [x4_1]) (wrap64 (x4_1 + 1))) else (none)) else (spec_l03List.l0 k1 a0 x3_1 (wrap64 (x4_1 + 1)))) = some r := by first | (rw [hji7] at H; exact H) | (simp only [hji7] at H ⊢; exact H)
          have hji7_ : (a0 / 2 ^ min (ji5).toNat 16) = ji7 := hji7
          have hji7z : (ji5) ≤ 16 → (a0 / 2 ^ (ji5).toNat) = ji7 := shr_small hji7
          by_cases c8 : (Go.bits .and .u16 (ji7) 1) = 1
          · rw [if_pos c8] at H
            have c8b0 : ((Go.bits .and .u16 (ji7) 1) == 1) = true := beq_iff_eq.mpr c8
            have c8b1 : ((Go.bits .and .u16 (ji7) 1) != 1) = false := bne_eq_false_iff_eq.mpr c8
            clear c8
            by_cases c9 : x3_1.length < 17592186044416
            · rw [if_pos c9] at H
              have LMc9 := Aside0.mk c9
              clear c9
              obtain ⟨y132, hy132⟩ : ∃ y_ : List Int, y_ = (x3_1 ++ [x4_1]) := ⟨_, rfl⟩
              replace H : (spec_l03List.l0 k1 a0 y132 (wrap64 (x4_1 + 1))) = some r := by first | (rw [hy132]; with_reducible exact H) | (have H2_ := (Option.bind_some _ _).symm.trans H; rw [hy132]; with_reducible exact H2_) | (have H2_ := (Option.bind_some _ _).symm.trans H; with_reducible exact H2_) | with_reducible exact H | (rw [hy132]; exact H) | exact H
              have Ny132 := Aside0.mk hy132
              clear hy132
              have H' := Aside0.mk H
              clear H
              go_wp2_with (first | ((with_reducible refine gate_builtin (b := .append) (xs := #[.tmp 16, .tmp 18]) rfl ?_); at_builtin; refine Kd.R_append (Kd.int .i64) (w0 := w) w.heap.size rfl (.tmp 16) (.tmp 18) 24 2 (.int .i64 0) 8 rfl Try.underlying24 info2 rfl (by decide) (by omega) u3 x3_1 x4_1 [.int .i64 x4_1] (fun _ => True) (fun _ => False) rfl rfl ?aP (fun _ hk => hk.elim) ?aF ?aO ?aB ?aS ?aL ?_; (case aP => exact rfl); (case aB => exact (by repeat (first | (with_reducible first | exact HB.out | apply below_alloc | apply pw_below_drewN | apply below_drew1) | exact HB.out))); (case aF => exact (fun _ _ => trivial)); (case aO => exact (by (with_reducible repeat (first | apply Kd.R_alloc | apply Kd.R_drewN | apply Kd.R_drew)); exact HO_3.out)); (case aS => exact (below_size (by repeat (first | (with_reducible first | exact HB.out | apply below_alloc | apply pw_below_drewN | apply below_drew1) | exact HB.out)))); (case aL => have := LMc9.out; omega); intro v133 w10 ho hb hg hat; rw [← Ny132.out] at ho; have n0_ := Aside0.mk (hb); have n1_ := Aside0.mk (ho); clear HB; clear HO_3; have HB := n0_; have HO134 := n1_; clear n0_ n1_; clear ho hb hg hat))
              go_roundg k1
              case measure => have := HK1.out; omega
              case rel => exact ⟨(y132), (wrap64 (x4_1 + 1)), (by first | rfl | (simp; done) | (simp [*]; done)), H', ⟨by have := HK1.out; omega⟩, ⟨by (with_reducible repeat (first | apply Kd.R_alloc | apply Kd.R_drewN | apply Kd.R_drew)); exact HO134.out⟩, ⟨by repeat (first | (with_reducible first | exact HB.out | apply below_alloc | apply pw_below_drewN | apply below_drew1) | exact HB.out)⟩⟩
            · rw [if_neg c9] at H
              exact absurd H (by simp)
          · rw [if_neg c8] at H
            have c8b0 : ((Go.bits .and .u16 (ji7) 1) == 1) = false := beq_eq_false_iff_ne.mpr c8
            have c8b1 : ((Go.bits .and .u16 (ji7) 1) != 1) = true := bne_iff_ne.mpr c8
            have H' := Aside0.mk H
            clear H
            go_wp2
            go_roundg k1
            case measure => have := HK1.out; omega
            case rel => exact ⟨(x3_1), (wrap64 (x4_1 + 1)), (by first | rfl | (simp; done) | (simp [*]; done)), H', ⟨by have := HK1.out; omega⟩, ⟨by (with_reducible repeat (first | apply Kd.R_alloc | apply Kd.R_drewN | apply Kd.R_drew)); exact HO_3.out⟩, ⟨by repeat (first | (with_reducible first | exact HB.out | apply below_alloc | apply pw_below_drewN | apply below_drew1) | exact HB.out)⟩⟩
        · rw [if_neg c6] at H
          exact absurd H (by simp)
      · rw [if_neg c4] at H
        have c4b0 : decide (x4_1 < 12) = false := decide_eq_false c4
        clear c4
        obtain rfl := Option.some.inj H
        go_wp2
        go_ret
        exact ⟨_, by first | rfl | (simp [errW_none, errW_some] <;> rfl) | (simp [*, errW_none, errW_some] <;> rfl), by (with_reducible repeat (first | apply Kd.R_alloc | apply Kd.R_drewN | apply Kd.R_drew)); exact HO_3.out, by repeat (first | (with_reducible first | exact HB.out | apply below_alloc | apply pw_below_drewN | apply below_drew1) | exact HB.out)⟩

/-! ### spec_l03All: function 68 -/
def spec_l03All.f (a0 : Int) : Option (Int) := if 0 ≤ (IntKind.u64.wrap (a0)) then (some (IntKind.u16.wrap ((shl .u16 1 (IntKind.u64.wrap (a0))) - 1))) else (none)
set_option maxHeartbeats 8000000 in
set_option maxRecDepth 100000 in
theorem spec_l03All.calls (a0 : Int) (r : Int) (w : World) (h : spec_l03All.f a0 = some r) :
    Calls Try.prog 68 #[.int .i64 a0] w fun e w' => e = .returned (.int .u16 r) ∧ Drawn0 w w' := by
  have H : (if 0 ≤ (IntKind.u64.wrap (a0)) then (some (IntKind.u16.wrap ((shl .u16 1 (IntKind.u64.wrap (a0))) - 1))) else (none)) = some r := h
  clear h
  obtain ⟨ji2, hji2⟩ : ∃ j_ : Int, (IntKind.u64.wrap (a0)) = j_ := ⟨_, rfl⟩
  replace H : (if 0 ≤ (ji2) then (some (IntKind.u16.wrap ((shl .u16 1 (ji2)) - 1))) else (none)) = some r := by first | (rw [hji2] at H; exact H) | (simp only [hji2] at H ⊢; exact H)
  by_cases c3 : 0 ≤ (ji2)
  · rw [if_pos c3] at H
    have c3b0 := eq_true c3
    have c3b1 : decide (0 ≤ (ji2)) = true := decide_eq_true c3
    clear c3
    obtain ⟨ji4, hji4⟩ : ∃ j_ : Int, (shl .u16 1 (ji2)) = j_ := ⟨_, rfl⟩
    replace H : (some (IntKind.u16.wrap ((ji4) - 1))) = some r := by first | (rw [hji4] at H; exact H) | (simp only [hji4] at H ⊢; exact H)
    have hji4_ : (IntKind.u16.wrap (1 * 2 ^ min (ji2).toNat 16)) = ji4 := hji4
    have hji4z : (ji2) ≤ 16 → (IntKind.u16.wrap (1 * 2 ^ (ji2).toNat)) = ji4 := shl_small hji4
    have hji4u : (IntKind.u16.wrap (2 ^ min (ji2).toNat 16)) = ji4 := by have h_ := hji4_; rw [Int.one_mul] at h_; exact h_
    have hji4v : (ji2) ≤ 16 → (IntKind.u16.wrap (2 ^ (ji2).toNat)) = ji4 := fun hle_ => by have h_ := hji4z hle_; rw [Int.one_mul] at h_; exact h_
    obtain rfl := Option.some.inj H
    go_enter Try.func68, Try.ntmps68
    go_wp2
    go_ret
    exact ⟨by first | rfl | (simp; done) | (simp only [← hji2, ← hji4] <;> (first | rfl | simp)) | (simp [*]; done), by repeat (first | exact Drawn0.refl _ | apply Drawn0.step)⟩
  · rw [if_neg c3] at H
    exact absurd H (by simp)

/-! ### spec_l03Free: function 67: this session's own text -/
/-- The bit of a number. -/
def bitN (x : Nat) : Int := IntKind.u16.wrap (2 ^ x)
/-- Those of the first numbers that are free. -/
def freeB (m : List Int) (s : Int) : Nat → Int
  | 0 => 0
  | x + 1 => if Go.bits .and .u16 s (bitN x) ≠ 0 ∧ Go.bits .and .u16 (rd m x) s = 0 then Go.bits .or .u16 (freeB m s x) (bitN x) else freeB m s x
def spec_l03Free.f (l0 : List Int) (a1 : Int) : Option Int := if l0.length = 12 then some (freeB l0 a1 12) else none
set_option maxHeartbeats 4000000 in
set_option maxRecDepth 100000 in
theorem spec_l03Free.calls (p : Nat) (m : List Int) (s r : Int) (w : World) (hb : w.heap[p]? = some (.cells (m.map (Value.int .u16)).toArray 59 (0, 0))) (h : spec_l03Free.f m s = some r) :
    Calls Try.prog 67 #[.pointer (some ⟨p, 0, none⟩), .int .u16 s] w fun e w' => e = .returned (.int .u16 r) ∧ Below w.heap.size w w' := by
  unfold spec_l03Free.f at h
  by_cases hh : m.length = 12
  · rw [if_pos hh] at h
    obtain rfl := Option.some.inj h
    have HM := Aside0.mk (And.intro hh hb)
    have HB := Aside0.mk (Below.refl w.heap.size w)
    clear hh hb h
    go_enter Try.func67, Try.ntmps67
    go_wp2
    go_loopg [5, 6] 12 (fun gk v5 v6 w' => ∃ x : Nat, v6 = .int .i64 x ∧ v5 = .int .u16 (freeB m s x) ∧ Aside0 (x + gk = 12) ∧ Aside0 (Below w.heap.size w w'))
    case atStart => exact ⟨0, rfl, rfl, ⟨by omega⟩, HB⟩
    case round =>
      clear HB
      obtain ⟨x, rfl, rfl, HK, HB⟩ := hrel
      by_cases c3 : (x : Int) < 12
      · have hxn : x < 12 := by omega
        have hs : wr.cell? ⟨p, x, none⟩ = some (.int .u16 (rd m (x : Int))) := by
          have := cell_of_ints HM.out.2 (i := (x : Int)) (by rw [HM.out.1, Int.toNat_natCast]; omega)
          rw [Int.toNat_natCast] at this
          exact (HB.out.cell (World.block_lt_of_cell? w _ this)).trans this
        have HX : Aside0 (wrap64 ((x : Int) + 1) = ((x + 1 : Nat) : Int)) := ⟨by unfold wrap64; omega⟩
        have c3b : decide ((x : Int) < 12) = true := decide_eq_true c3
        have c3n : decide (x < 12) = true := decide_eq_true hxn
        have p0b : decide (0 ≤ (x : Int)) = true := decide_eq_true (by omega)
        clear c3
        by_cases c1 : Go.bits .and .u16 s (bitN x) = 0
        · have HF : Aside0 (freeB m s (x + 1) = freeB m s x) := ⟨by simp only [freeB]; rw [if_neg (fun g => g.1 c1)]⟩
          have c1b : (Go.bits .and .u16 s (IntKind.u16.wrap (2 ^ x)) != 0) = false := bne_eq_false_iff_eq.mpr c1
          have c1c : (Go.bits .and .u16 s (IntKind.u16.wrap (2 ^ x)) == 0) = true := beq_iff_eq.mpr c1
          clear c1
          go_wp2
          go_roundg (gk - 1)
          case measure => have := HK.out; omega
          case rel => exact ⟨x + 1, by first | rfl | rw [HX.out], by rw [HF.out], ⟨by have := HK.out; omega⟩, ⟨by repeat (first | (with_reducible exact HB.out) | apply pw_below_drewN | apply below_drew)⟩⟩
        · have c1b : (Go.bits .and .u16 s (IntKind.u16.wrap (2 ^ x)) != 0) = true := bne_iff_ne.mpr c1
          have c1c : (Go.bits .and .u16 s (IntKind.u16.wrap (2 ^ x)) == 0) = false := beq_eq_false_iff_ne.mpr c1
          by_cases c2 : Go.bits .and .u16 (rd m x) s = 0
          · have HF : Aside0 (freeB m s (x + 1) = Go.bits .or .u16 (freeB m s x) (bitN x)) := ⟨by simp only [freeB]; rw [if_pos ⟨c1, c2⟩]⟩
            have c2b : (Go.bits .and .u16 (rd m x) s == 0) = true := beq_iff_eq.mpr c2
            have c2c : (Go.bits .and .u16 (rd m x) s != 0) = false := bne_eq_false_iff_eq.mpr c2
            clear c1 c2
            go_wp2
            go_roundg (gk - 1)
            case measure => have := HK.out; omega
            case rel => exact ⟨x + 1, by first | rfl | rw [HX.out], congrArg (Value.int .u16) HF.out.symm, ⟨by have := HK.out; omega⟩, ⟨by repeat (first | (with_reducible exact HB.out) | apply pw_below_drewN | apply below_drew)⟩⟩
          · have HF : Aside0 (freeB m s (x + 1) = freeB m s x) := ⟨by simp only [freeB]; rw [if_neg (fun g => c2 g.2)]⟩
            have c2b : (Go.bits .and .u16 (rd m x) s == 0) = false := beq_eq_false_iff_ne.mpr c2
            have c2c : (Go.bits .and .u16 (rd m x) s != 0) = true := bne_iff_ne.mpr c2
            clear c1 c2
            go_wp2
            go_roundg (gk - 1)
            case measure => have := HK.out; omega
            case rel => exact ⟨x + 1, by first | rfl | rw [HX.out], by rw [HF.out], ⟨by have := HK.out; omega⟩, ⟨by repeat (first | (with_reducible exact HB.out) | apply pw_below_drewN | apply below_drew)⟩⟩
      · have c3b : decide ((x : Int) < 12) = false := decide_eq_false c3
        have hx : x = 12 := by have := HK.out; omega
        subst hx
        clear c3
        go_wp2
        go_ret
        exact ⟨by first | rfl | (simp; done), HB.out⟩
  · rw [if_neg hh] at h; cases h

/-! ### spec_l03Locked: function 73: this session's own text -/
/-- What can never be taken up of a set: round by round. -/
def lockB (m : List Int) : Nat → Int → Option Int
  | 0, _ => none
  | k + 1, s => if freeB m s 12 = 0 then some s else lockB m k (Go.bits .andNot .u16 s (freeB m s 12))
def spec_l03Locked.f (k : Nat) (m : List Int) (s : Int) : Option Int := if m.length = 12 then lockB m k s else none
theorem lockB_mono (m : List Int) : ∀ (k : Nat) (s : Int), LeO (lockB m k s) (lockB m (k + 1) s) := by
  intro k
  induction k with
  | zero => intro s; exact LeO.none _
  | succ k ih =>
    intro s
    rw [lockB]
    conv => rhs; rw [lockB]
    split
    · exact LeO.refl _
    · exact ih _
theorem spec_l03Locked.mono : ∀ m s k, LeO (spec_l03Locked.f k m s) (spec_l03Locked.f (k + 1) m s) := by
  intro m s k
  unfold spec_l03Locked.f
  split
  · exact lockB_mono m k s
  · exact LeO.none _
set_option maxHeartbeats 4000000 in
set_option maxRecDepth 100000 in
theorem spec_l03Locked.calls (k : Nat) (p : Nat) (m : List Int) (s r : Int) (w : World) (hb : w.heap[p]? = some (.cells (m.map (Value.int .u16)).toArray 59 (0, 0))) (h : spec_l03Locked.f k m s = some r) :
    Calls Try.prog 73 #[.pointer (some ⟨p, 0, none⟩), .int .u16 s] w fun e w' => e = .returned (.int .u16 r) ∧ Below w.heap.size w w' := by
  unfold spec_l03Locked.f at h
  by_cases hh : m.length = 12
  · rw [if_pos hh] at h
    have hfr : Aside0 (∀ W s, Below w.heap.size w W → Calls Try.prog 67 #[.pointer (some ⟨p, 0, none⟩), .int .u16 s] W fun e w' => e = .returned (.int .u16 (freeB m s 12)) ∧ Below W.heap.size W w') := ⟨fun W s hW => spec_l03Free.calls p m s _ W ((hW.block _ (blk_lt hb)).trans hb) (by unfold spec_l03Free.f; rw [if_pos hh])⟩
    have HB := Aside0.mk (Below.refl w.heap.size w)
    have H := Aside0.mk h
    clear hh hb h
    go_enter Try.func73, Try.ntmps73
    go_wp2
    go_loopg [1] k (fun gk v1 w' => ∃ x : Int, v1 = .int .u16 x ∧ Aside0 (lockB m gk x = some r) ∧ Aside0 (Below w.heap.size w w'))
    case atStart => exact ⟨s, rfl, H, HB⟩
    case round =>
      clear HB H
      obtain ⟨x, rfl, H, HB⟩ := hrel
      cases gk with
      | zero => exact absurd H.out (by simp [lockB])
      | succ gk =>
        have h := H.out
        clear H
        rw [lockB] at h
        obtain ⟨u, hu⟩ : ∃ u, u = freeB m x 12 := ⟨_, rfl⟩
        have hfx : Aside0 (∀ W, Below w.heap.size w W → Calls Try.prog 67 #[.pointer (some ⟨p, 0, none⟩), .int .u16 x] W fun e w' => e = .returned (.int .u16 u) ∧ Below W.heap.size W w') := ⟨fun W hW => by rw [hu]; exact hfr.out W x hW⟩
        rw [← hu] at h
        by_cases c1 : u = 0
        · rw [if_pos c1] at h
          obtain rfl := Option.some.inj h
          have c1b : (u == 0) = true := beq_iff_eq.mpr c1
          clear c1 hu h
          go_wp2_with (first | (go_at_call 67; refine (hfx.out _ HB.out).mono ?_; rintro e w2 ⟨rfl, hb2⟩; have HB2 := Aside0.mk (HB.out.trans (hb2.mono HB.out.size)); clear hb2))
          go_ret
          exact ⟨by first | rfl | (simp; done), HB2.out⟩
        · rw [if_neg c1] at h
          have c1b : (u == 0) = false := beq_eq_false_iff_ne.mpr c1
          have H := Aside0.mk h
          clear c1 hu h
          go_wp2_with (first | (go_at_call 67; refine (hfx.out _ HB.out).mono ?_; rintro e w2 ⟨rfl, hb2⟩; have HB2 := Aside0.mk (HB.out.trans (hb2.mono HB.out.size)); clear hb2))
          go_roundg gk
          case measure => omega
          case rel => exact ⟨_, rfl, H, HB2⟩
  · rw [if_neg hh] at h; cases h

/-! ### spec_EarliestLeave: function 37: this session's own text -/
/-- An empty row that a literal has made. -/
theorem empty_lit {W : World} {base : Nat} {e : TypeId} (h : base ≤ W.heap.size) : Kd.R (Kd.int .i64) e (W.alloc (.cells #[] e)) base (fun _ => True) (.slice (some ⟨W.heap.size, 0, none⟩) 0 0) [] :=
  Kd.R_of_own (enc := Value.int .i64) (h1 := fun _ => rfl) (xs := []) ⟨by simp [encs], .inr ⟨W.heap.size, 0, #[], rfl, h, blk_new W _, Nat.le_refl _, by unfold maxLen; omega, by simp, by simp [encs]⟩⟩ (fun _ _ => trivial)

theorem maskL_length (l : List S64) : (maskL l).length = 12 := by
  have key : ∀ (l : List S64) (m : List Int), (l.foldl orS m).length = m.length := by
    intro l
    induction l with
    | nil => intro m; rfl
    | cons y l ih => intro m; rw [List.foldl_cons, ih, orS_length]
  exact key _ _
theorem maskL_form (l : List S64) : ∃ m0 m1 m2 m3 m4 m5 m6 m7 m8 m9 m10 m11 : Int, maskL l = [m0, m1, m2, m3, m4, m5, m6, m7, m8, m9, m10, m11] := by
  have h := maskL_length l
  generalize maskL l = m at h
  match m, h with
  | [m0, m1, m2, m3, m4, m5, m6, m7, m8, m9, m10, m11], _ => exact ⟨m0, m1, m2, m3, m4, m5, m6, m7, m8, m9, m10, m11, rfl⟩

theorem of_drop {α : Type} {xs : List α} {p : Nat} {x : α} {rest : List α} (h : xs.drop p = x :: rest) : p < xs.length ∧ xs.drop (p + 1) = rest ∧ ∀ d, xs.getD ((p : Int)).toNat d = x := by
  have hp : p < xs.length := by
    rcases Nat.lt_or_ge p xs.length with h1 | h1
    · exact h1
    · rw [List.drop_eq_nil_of_le h1] at h; cases h
  rw [List.drop_eq_getElem_cons hp] at h
  injection h with h1 h2
  refine ⟨hp, h2, fun d => ?_⟩
  rw [Int.toNat_natCast, List.getD_eq_getElem?_getD, List.getElem?_eq_getElem hp]
  exact h1

theorem of_drop_nil {α : Type} {xs : List α} {p : Nat} (h : xs.drop p = []) : xs.length ≤ p := List.drop_eq_nil_iff.1 h

theorem step64 {p n : Nat} (h : p < n) (hn : n ≤ 1152921504606846976) : wrap64 ((p : Int) + 1) = ((p + 1 : Nat) : Int) := by
  unfold wrap64
  omega

theorem take_set_at {α : Type} (ys : List α) (p : Nat) (v : α) (h : p < ys.length) : (ys.set p v).take (p + 1) = ys.take p ++ [v] := by
  rw [List.take_succ_eq_append_getElem (by simpa using h), List.take_set_of_le (Nat.le_refl _)]
  simp

theorem i8_in {a : Int} (h : (Lit.int .i8 a).wf = true) : -128 ≤ a ∧ a ≤ 127 := by
  simp [Lit.wf, IntKind.min, IntKind.max, IntKind.signed, IntKind.bits] at h
  omega

theorem i64_in {a : Int} (h : (Lit.int .i64 a).wf = true) : -9223372036854775808 ≤ a ∧ a ≤ 9223372036854775807 := by
  simp [Lit.wf, IntKind.min, IntKind.max, IntKind.signed, IntKind.bits] at h
  omega

theorem w64_id {a : Int} (h : -9223372036854775808 ≤ a ∧ a ≤ 9223372036854775807) : wrap64 a = a := by
  unfold wrap64
  omega

theorem w8_cases (a : Int) : IntKind.i8.wrap a = if a % 256 ≥ 128 then a % 256 - 256 else a % 256 := by
  simp [IntKind.wrap, IntKind.signed, IntKind.bits]

theorem some_dec {p q : Prop} [Decidable p] [Decidable q] (h : p ↔ q) : some (decide p) = some (decide q) := by rw [decide_eq_decide.2 h]
theorem some_decF {q : Prop} [Decidable q] (h : ¬ q) : some false = some (decide q) := by rw [decide_eq_false h]
theorem some_decT {q : Prop} [Decidable q] (h : q) : some true = some (decide q) := by rw [decide_eq_true h]

def samC (x y : S64) : Bool := x.f0 == y.f0 && x.f1 == y.f1
theorem samC_eq {x y : S64} (h : samC x y = true) : x = y := by
  cases x; cases y
  simp [samC] at h
  rw [h.1, h.2]
theorem samC_ne {x y : S64} (h : samC x y = false) : x ≠ y := by
  intro e
  rw [e] at h
  simp [samC] at h
instance : DecidableEq S64 := fun x y => decidable_of_iff (samC x y = true) ⟨samC_eq, fun h => by rw [h]; simp [samC]⟩
/-- Covers as they may be: chains below n, two of them, none twice; those of s have been. -/
def okGo (n : Int) : List S64 → List S64 → Bool
  | _, [] => true
  | s, x :: r => if (0 ≤ x.f0 ∧ x.f0 < n) ∧ (0 ≤ x.f1 ∧ x.f1 < n) ∧ x.f0 ≠ x.f1 ∧ x ∉ s then okGo n (s ++ [x]) r else false
def okC (n : Int) (l : List S64) : Bool := decide (0 ≤ n ∧ n ≤ 12 ∧ l.length ≤ 60) && okGo n [] l
theorem okGo_all {n : Int} : ∀ {r s : List S64}, okGo n s r = true → (∀ x ∈ r, (0 ≤ x.f0 ∧ x.f0 < n) ∧ (0 ≤ x.f1 ∧ x.f1 < n) ∧ x.f0 ≠ x.f1) ∧ r.Nodup ∧ ∀ x ∈ r, x ∉ s
  | [], s, _ => by simp
  | x :: r, s, h => by
    simp only [okGo] at h
    split at h
    · rename_i hx
      obtain ⟨h1, h2, h3⟩ := okGo_all h
      refine ⟨fun y hy => ?_, List.nodup_cons.2 ⟨fun m => h3 x m (by simp), h2⟩, fun y hy => ?_⟩
      · rcases List.mem_cons.1 hy with rfl | hy
        · exact ⟨hx.1, hx.2.1, hx.2.2.1⟩
        · exact h1 y hy
      · rcases List.mem_cons.1 hy with rfl | hy
        · exact hx.2.2.2
        · exact fun m => h3 y hy (List.mem_append_left _ m)
    · cases h
theorem okC_ok {n : Int} {l : List S64} (h : okC n l = true) : 0 ≤ n ∧ n ≤ 12 ∧ l.length ≤ 60 ∧ (∀ x ∈ l, (0 ≤ x.f0 ∧ x.f0 < n) ∧ (0 ≤ x.f1 ∧ x.f1 < n) ∧ x.f0 ≠ x.f1) ∧ l.Nodup := by
  unfold okC at h
  rw [Bool.and_eq_true, decide_eq_true_iff] at h
  obtain ⟨h1, h2, _⟩ := okGo_all h.2
  exact ⟨h.1.1, h.1.2.1, h.1.2.2, h1, h2⟩
def InC (x : S64) : Prop := (-128 ≤ x.f0 ∧ x.f0 ≤ 127) ∧ (-128 ≤ x.f1 ∧ x.f1 ≤ 127)

/-- 0, 1, .. below n. -/
def cntI (n : Nat) : List Int := (List.range n).map fun (i : Nat) => (i : Int)
theorem cntI_length (n : Nat) : (cntI n).length = n := by simp [cntI]
theorem perm_of_sub : ∀ (r s : List Int), r.Nodup → (∀ x ∈ r, x ∈ s) → s.length ≤ r.length → r.Perm s
  | [], s, _, _, hl => by
    have : s = [] := List.length_eq_zero_iff.1 (by simpa using hl)
    rw [this]
  | x :: r, s, hn, hs, hl => by
    obtain ⟨h1, h2⟩ := List.nodup_cons.1 hn
    have hx := hs x List.mem_cons_self
    have hle := List.length_erase_of_mem hx
    have ih := perm_of_sub r (s.erase x) h2 (fun y hy => (List.mem_erase_of_ne (fun e => by rw [e] at hy; exact h1 hy)).2 (hs y (List.mem_cons_of_mem _ hy))) (by rw [hle]; simp at hl; omega)
    exact (List.Perm.cons x ih).trans (List.perm_cons_erase hx).symm
theorem cntI_mem {n : Nat} {x : Int} : x ∈ cntI n ↔ 0 ≤ x ∧ x < n := by
  unfold cntI
  rw [List.mem_map]
  constructor
  · intro ⟨i, hi, e⟩
    have := List.mem_range.1 hi
    omega
  · intro h
    exact ⟨x.toNat, List.mem_range.2 (by omega), by omega⟩
theorem cntI_lt (n : Nat) : (cntI n).Pairwise (fun a b => a < b) := by
  unfold cntI
  rw [List.pairwise_map]
  exact List.pairwise_lt_range.imp (fun h => by omega)
theorem cntI_nodup (n : Nat) : (cntI n).Nodup := (cntI_lt n).imp (fun h => by omega)

theorem wu16 {a : Nat} (h : a < 65536) : IntKind.u16.wrap (a : Int) = a := by
  have : IntKind.u16.wrap (a : Int) = (a : Int) % 65536 := by simp [IntKind.wrap, IntKind.signed, IntKind.bits]
  rw [this]
  omega
theorem wu64 {a : Nat} (h : a < 65536) : IntKind.u64.wrap (a : Int) = a := by
  have : IntKind.u64.wrap (a : Int) = (a : Int) % 18446744073709551616 := by simp [IntKind.wrap, IntKind.signed, IntKind.bits]
  rw [this]
  omega
theorem bits_or {a b : Nat} (ha : a < 65536) (hb : b < 65536) : Go.bits .or .u16 (a : Int) (b : Int) = ((a ||| b : Nat) : Int) := by
  have hab : a ||| b < 65536 := Nat.or_lt_two_pow (n := 16) ha hb
  have : Go.bits .or .u16 (a : Int) (b : Int) = IntKind.u16.wrap (((BitVec.ofInt 16 (a : Int) ||| BitVec.ofInt 16 (b : Int)).toNat : Nat) : Int) := rfl
  rw [this, BitVec.toNat_or]
  have e : ∀ x : Nat, x < 65536 → (BitVec.ofInt 16 (x : Int)).toNat = x := fun x hx => by
    rw [BitVec.toNat_ofInt]
    omega
  rw [e a ha, e b hb, wu16 hab]
theorem bits_and1 {a : Nat} (ha : a < 65536) : Go.bits .and .u16 (a : Int) 1 = ((a % 2 : Nat) : Int) := by
  have : Go.bits .and .u16 (a : Int) 1 = IntKind.u16.wrap (((BitVec.ofInt 16 (a : Int) &&& BitVec.ofInt 16 ((1 : Nat) : Int)).toNat : Nat) : Int) := rfl
  rw [this, BitVec.toNat_and]
  have e : ∀ x : Nat, x < 65536 → (BitVec.ofInt 16 (x : Int)).toNat = x := fun x hx => by
    rw [BitVec.toNat_ofInt]
    omega
  rw [e a ha, e 1 (by omega), Nat.and_one_is_mod, wu16 (by omega)]
/-- Is a bit set? -/
def bitI (z i : Int) : Bool := decide (Go.bits .and .u16 (shr .u16 z (IntKind.u64.wrap i)) 1 = 1)
theorem bitI_is {a i : Nat} (ha : a < 65536) (hi : i < 12) : bitI (a : Int) (i : Int) = a.testBit i := by
  have hlt : a / 2 ^ i < 65536 := Nat.lt_of_le_of_lt (Nat.div_le_self _ _) ha
  have e : shr .u16 (a : Int) (IntKind.u64.wrap (i : Int)) = ((a / 2 ^ i : Nat) : Int) := by
    unfold shr
    rw [wu64 (by omega), Int.toNat_natCast, show IntKind.u16.bits = 16 from rfl, Nat.min_eq_left (by omega)]
    norm_cast
  unfold bitI
  rw [e, bits_and1 hlt, Nat.testBit_eq_decide_div_mod_eq]
  exact decide_eq_decide.2 (by omega)
theorem one_bit {v : Nat} (hv : v < 12) : IntKind.u16.wrap (2 ^ min (IntKind.u64.wrap (v : Int)).toNat 16) = ((2 ^ v : Nat) : Int) := by
  rw [wu64 (by omega), Int.toNat_natCast, Nat.min_eq_left (by omega)]
  have h : 2 ^ v < 65536 := Nat.lt_of_lt_of_le (Nat.pow_lt_pow_right (by omega) (show v < 16 by omega)) (by decide)
  have e : (2 : Int) ^ v = ((2 ^ v : Nat) : Int) := by norm_cast
  rw [e, wu16 h]
/-- What the masks say. -/
def Says (m : List Int) (s : List S64) : Prop := m.length = 12 ∧ ∀ c : Nat, c < 12 → ∃ a : Nat, rd m (c : Int) = a ∧ a < 65536 ∧ ∀ i : Nat, i < 12 → (a.testBit i = true ↔ ∃ x ∈ s, x.f1 = (c : Int) ∧ x.f0 = (i : Int))
theorem says_zero : Says [0, 0, 0, 0, 0, 0, 0, 0, 0, 0, 0, 0] [] := by
  refine ⟨rfl, fun c hc => ⟨0, ?_, by omega, fun i _ => by simp⟩⟩
  have : ∀ c, c < 12 → rd [0, 0, 0, 0, 0, 0, 0, 0, 0, 0, 0, 0] ((c : Nat) : Int) = 0 := by decide
  exact this c hc
theorem says_or {m : List Int} {s : List S64} {x : S64} (h : Says m s) (h0 : 0 ≤ x.f0 ∧ x.f0 < 12) (h1 : 0 ≤ x.f1 ∧ x.f1 < 12) : Says (orS m x) (s ++ [x]) := by
  obtain ⟨u, hu⟩ : ∃ u : Nat, x.f1 = (u : Int) := ⟨x.f1.toNat, by omega⟩
  obtain ⟨v, hv⟩ : ∃ v : Nat, x.f0 = (v : Int) := ⟨x.f0.toNat, by omega⟩
  refine ⟨by rw [orS_length]; exact h.1, fun c hc => ?_⟩
  obtain ⟨a, ha, hlt, hb⟩ := h.2 c hc
  have hp : 2 ^ v < 65536 := Nat.lt_of_lt_of_le (Nat.pow_lt_pow_right (by omega) (show v < 16 by omega)) (by decide)
  by_cases e : c = u
  · subst e
    refine ⟨a ||| 2 ^ v, ?_, Nat.or_lt_two_pow (n := 16) hlt hp, fun i hi => ?_⟩
    · unfold orS
      rw [hu, hv, Int.toNat_natCast, ha, one_bit (by omega), bits_or hlt hp, rd, Int.toNat_natCast, List.getD_eq_getElem?_getD, List.getElem?_set_self (by rw [h.1]; exact hc)]
      rfl
    · rw [Nat.testBit_or, Bool.or_eq_true, hb i hi, Nat.testBit_two_pow, decide_eq_true_iff]
      constructor
      · rintro (⟨y, hy, h2⟩ | h2)
        · exact ⟨y, List.mem_append_left _ hy, h2⟩
        · exact ⟨x, by simp, hu, by rw [hv, h2]⟩
      · rintro ⟨y, hy, h2⟩
        rcases List.mem_append.1 hy with hy | hy
        · exact .inl ⟨y, hy, h2⟩
        · rw [List.mem_singleton.1 hy] at h2
          right
          have := h2.2
          omega
  · refine ⟨a, ?_, hlt, fun i hi => ?_⟩
    · unfold orS
      rw [hu, Int.toNat_natCast, ← ha]
      simp only [rd, Int.toNat_natCast, List.getD_eq_getElem?_getD]
      rw [List.getElem?_set_ne (fun g => e g.symm)]
    · rw [hb i hi]
      constructor
      · rintro ⟨y, hy, h2⟩
        exact ⟨y, List.mem_append_left _ hy, h2⟩
      · rintro ⟨y, hy, h2⟩
        rcases List.mem_append.1 hy with hy | hy
        · exact ⟨y, hy, h2⟩
        · rw [List.mem_singleton.1 hy] at h2
          have := h2.1
          omega
theorem says_mask : ∀ (l s : List S64) (m : List Int), Says m s → (∀ x ∈ l, (0 ≤ x.f0 ∧ x.f0 < 12) ∧ (0 ≤ x.f1 ∧ x.f1 < 12)) → Says (l.foldl orS m) (s ++ l)
  | [], s, m, h, _ => by simpa using h
  | x :: l, s, m, h, hin => by
    have := says_mask l (s ++ [x]) (orS m x) (says_or h (hin x List.mem_cons_self).1 (hin x List.mem_cons_self).2) (fun y hy => hin y (List.mem_cons_of_mem _ hy))
    simpa using this
theorem says_all (l : List S64) (hin : ∀ x ∈ l, (0 ≤ x.f0 ∧ x.f0 < 12) ∧ (0 ≤ x.f1 ∧ x.f1 < 12)) : Says (maskL l) l := by
  have := says_mask l [] _ says_zero hin
  rw [List.nil_append] at this
  exact this
/-- The numbers of the bits of a set. -/
def listB (z : Int) : List Int := (cntI 12).filter (bitI z)
theorem l03List_l0 (z : Int) : ∀ (m i k : Nat), i + m = 12 → m < k → spec_l03List.l0 k z ((cntI i).filter (bitI z)) (i : Int) = some (listB z) := by
  intro m
  induction m with
  | zero =>
    intro i k hi hk
    obtain ⟨k, rfl⟩ : ∃ m, k = m + 1 := ⟨k - 1, by omega⟩
    simp only [spec_l03List.l0]
    rw [if_neg (by omega), show i = 12 by omega]
    rfl
  | succ m ih =>
    intro i k hi hk
    obtain ⟨k, rfl⟩ : ∃ m, k = m + 1 := ⟨k - 1, by omega⟩
    have hc : cntI (i + 1) = cntI i ++ [(i : Int)] := by simp [cntI, List.range_succ]
    have I := ih (i + 1) k (by omega) (by omega)
    rw [hc, List.filter_append] at I
    have hlen : ((cntI i).filter (bitI z)).length ≤ 12 := Nat.le_trans (List.length_filter_le _ _) (by rw [cntI_length]; omega)
    simp only [spec_l03List.l0]
    rw [if_pos (by omega), if_pos (by rw [wu64 (by omega)]; omega), step64 (show i < 12 by omega) (by omega)]
    by_cases hb : Go.bits .and .u16 (shr .u16 z (IntKind.u64.wrap (i : Int))) 1 = 1
    · have : bitI z (i : Int) = true := decide_eq_true hb
      rw [if_pos hb, if_pos (by omega)]
      simpa [this] using I
    · have : bitI z (i : Int) = false := decide_eq_false hb
      rw [if_neg hb]
      simpa [this] using I
theorem l03List_is (z : Int) (k : Nat) (hk : 12 < k) : spec_l03List.f k z = some (listB z) := by
  unfold spec_l03List.f
  exact l03List_l0 z 12 0 k rfl hk

/-- With what lies over those of a set, one chain after the other. -/
def grow (m : List Int) (s : Int) : Nat → Int
  | 0 => s
  | x + 1 => if Go.bits .and .u16 (grow m s x / 2 ^ x) 1 = 1 then Go.bits .or .u16 (grow m s x) (rd m (x : Int)) else grow m s x
def growN (m : List Int) (s : Int) : Nat → Int
  | 0 => s
  | r + 1 => grow m (growN m s r) 12
def spec_EarliestLeave.f (k : Nat) (a0 : Int) (l1 : List S64) (a2 : Int) : Option (List Int × Int) := (spec_l00In.f a2 0 (wrap64 (a0 - 1))).bind fun b => (spec_l03Asked.f k a0 l1 b).bind fun c => if c = 0 then (if (l1.length ≤ 1048576 ∧ ∀ x ∈ l1, (0 ≤ x.f0 ∧ x.f0 < 12) ∧ (0 ≤ x.f1 ∧ x.f1 < 12)) ∧ 0 ≤ a2 ∧ a2 < 12 then (spec_l03All.f a0).bind fun z => (spec_l03Locked.f k (maskL l1) z).bind fun u => if Go.bits .and .u16 (u / 2 ^ a2.toNat) 1 = 1 then some ([], 6) else some (listB (growN (maskL l1) (rd (maskL l1) a2) 12), 0) else none) else some ([], c)
theorem spec_EarliestLeave.mono : ∀ a0 a1 a2 k, LeO (spec_EarliestLeave.f k a0 a1 a2) (spec_EarliestLeave.f (k + 1) a0 a1 a2) := by
  intro a0 a1 a2 k
  unfold spec_EarliestLeave.f
  repeat' first
      | (with_reducible exact spec_l03Asked.mono _ _ _ _)
      | (with_reducible exact spec_l03Locked.mono _ _ _)
      | (with_reducible exact LeO.refl _)
      | (with_reducible exact LeO.none _)
      | (with_reducible refine LeO.ite ?_ ?_)
      | (with_reducible refine LeO.bind ?_ (fun _ => ?_))
      | exact spec_l03Asked.mono _ _ _ _
      | exact spec_l03Locked.mono _ _ _
      | exact LeO.none _
      | refine LeO.ite ?_ ?_
      | refine LeO.bind ?_ (fun _ => ?_)
set_option maxHeartbeats 8000000 in
set_option maxRecDepth 100000 in
theorem spec_EarliestLeave.calls (k : Nat) (a0 : Int) (A1 : Option Addr) (c1 : Nat) (l1 : List (S64)) (a2 : Int) (r1 : List Int) (r2 : Int) (w : World) (hr1 : Kd.C k64 w A1 l1.length l1) (hc1 : l1.length ≤ c1) (h : spec_EarliestLeave.f k a0 l1 a2 = some (r1, r2)) :
    Calls Try.prog 37 #[.int .i64 a0, .slice A1 l1.length c1, .int .i64 a2] w fun e w' => ∃ v0_ : Value, e = .returned (.tuple #[v0_, .int .i64 r2]) ∧ Kd.R (Kd.int .i64) 2 w' w.heap.size (fun _ => True) v0_ r1 ∧ Below w.heap.size w w' := by
  unfold spec_EarliestLeave.f at h
  obtain ⟨b, hb, h⟩ := Option.bind_eq_some_iff.mp h
  obtain ⟨c, hc, h⟩ := Option.bind_eq_some_iff.mp h
  have hin : Aside0 (∀ W, Calls Try.prog 52 #[.int .i64 a2, .int .i64 0, .int .i64 (wrap64 (a0 - 1))] W fun e w' => e = .returned (.bool b) ∧ Drawn0 W w') := ⟨fun W => spec_l00In.calls _ _ _ _ W hb⟩
  have has : Aside0 (∀ W, Below w.heap.size w W → Calls Try.prog 51 #[.int .i64 a0, .slice A1 l1.length c1, .bool b] W fun e w' => e = .returned (.int .i64 c) ∧ Below W.heap.size W w') := ⟨fun W hw => spec_l03Asked.calls k a0 A1 c1 l1 b c W (Kd.C_below hr1 hw) hc1 hc⟩
  have HB := Aside0.mk (Below.refl w.heap.size w)
  by_cases hc0 : c = 0
  · rw [if_pos hc0] at h
    by_cases hg : (l1.length ≤ 1048576 ∧ ∀ x ∈ l1, (0 ≤ x.f0 ∧ x.f0 < 12) ∧ (0 ≤ x.f1 ∧ x.f1 < 12)) ∧ 0 ≤ a2 ∧ a2 < 12
    · rw [if_pos hg] at h
      obtain ⟨z, hz, h⟩ := Option.bind_eq_some_iff.mp h
      obtain ⟨u, hu, h⟩ := Option.bind_eq_some_iff.mp h
      obtain ⟨a, rfl⟩ : ∃ a : Nat, a2 = (a : Int) := ⟨a2.toNat, by omega⟩
      simp only [Int.toNat_natCast] at h
      obtain ⟨m0, m1, m2, m3, m4, m5, m6, m7, m8, m9, m10, m11, hml⟩ := maskL_form l1
      have hov : Aside0 (∀ W, Below w.heap.size w W → Calls Try.prog 53 #[.slice A1 l1.length c1] W fun e w' => e = .returned (.agg #[.int .u16 m0, .int .u16 m1, .int .u16 m2, .int .u16 m3, .int .u16 m4, .int .u16 m5, .int .u16 m6, .int .u16 m7, .int .u16 m8, .int .u16 m9, .int .u16 m10, .int .u16 m11]) ∧ Below W.heap.size W w') := ⟨fun W hw => by
        have := spec_l03Over.calls A1 c1 l1 W (Kd.C_below hr1 hw) hc1 (by unfold spec_l03Over.f; rw [if_pos hg.1])
        rw [hml] at this
        exact this⟩
      have hal : Aside0 (∀ W, Calls Try.prog 68 #[.int .i64 a0] W fun e w' => e = .returned (.int .u16 z) ∧ Drawn0 W w') := ⟨fun W => spec_l03All.calls a0 z W hz⟩
      have hfr : Aside0 (∀ W p, W.heap[p]? = some (.cells #[.int .u16 m0, .int .u16 m1, .int .u16 m2, .int .u16 m3, .int .u16 m4, .int .u16 m5, .int .u16 m6, .int .u16 m7, .int .u16 m8, .int .u16 m9, .int .u16 m10, .int .u16 m11] 59 (0, 0)) → Calls Try.prog 73 #[.pointer (some ⟨p, 0, none⟩), .int .u16 z] W fun e w' => e = .returned (.int .u16 u) ∧ Below W.heap.size W w') := ⟨fun W p hb => spec_l03Locked.calls k p (maskL l1) z u W (by rw [hml]; exact hb) hu⟩
      have hli : Aside0 (∀ W u, Calls Try.prog 54 #[.int .u16 u] W fun e w' => ∃ v0_ : Value, e = .returned (v0_) ∧ Kd.R (Kd.int .i64) 2 w' W.heap.size (fun _ => True) v0_ (listB u) ∧ Below W.heap.size W w') := ⟨fun W u => spec_l03List.calls 13 u (listB u) W (l03List_is u 13 (by omega))⟩
      have hcell : Aside0 (∀ (W : World) (p x : Nat), W.heap[p]? = some (.cells #[.int .u16 m0, .int .u16 m1, .int .u16 m2, .int .u16 m3, .int .u16 m4, .int .u16 m5, .int .u16 m6, .int .u16 m7, .int .u16 m8, .int .u16 m9, .int .u16 m10, .int .u16 m11] 59 (0, 0)) → x < 12 → W.cell? ⟨p, x, none⟩ = some (.int .u16 (rd (maskL l1) (x : Int)))) := ⟨fun W p x hb hx => by
        have := cell_of_ints (w := W) (g := p) (xs := maskL l1) (k := .u16) (by rw [hml]; exact hb) (i := (x : Int)) (by rw [maskL_length, Int.toNat_natCast]; omega)
        rw [Int.toNat_natCast] at this
        exact this⟩
      have hu12 : (a : Int) < 12 := hg.2.2
      have hu12n : a < 12 := by omega
      subst hc0
      by_cases ct : Go.bits .and .u16 (u / 2 ^ a) 1 = 1
      · rw [if_pos ct] at h
        simp only [Option.some.injEq, Prod.mk.injEq] at h
        obtain ⟨rfl, rfl⟩ := h
        have ctb : (Go.bits .and .u16 (u / 2 ^ a) 1 == 1) = true := beq_iff_eq.mpr ct
        clear hr1 hc1 hb hc hml hg hz hu ct
        go_enter Try.func37, Try.ntmps37
        go_wp2_with (first | (go_at_call 52; refine (hin.out _).mono ?_; rintro e w1 ⟨rfl, hd⟩; have HB1 := Aside0.mk (HB.out.trans (hd.below.mono HB.out.size)); clear hd) | (go_at_call 51; refine (has.out _ HB1.out).mono ?_; rintro e w2 ⟨rfl, hb2⟩; have HB2 := Aside0.mk (HB1.out.trans (hb2.mono HB1.out.size)); clear hb2) | (go_at_call 53; refine (hov.out _ HB2.out).mono ?_; rintro e w3 ⟨rfl, hb3⟩; have HB3 := Aside0.mk (below_alloc (HB2.out.trans (hb3.mono HB2.out.size)) (.cells #[.int .u16 m0, .int .u16 m1, .int .u16 m2, .int .u16 m3, .int .u16 m4, .int .u16 m5, .int .u16 m6, .int .u16 m7, .int .u16 m8, .int .u16 m9, .int .u16 m10, .int .u16 m11] 59)); have HC3 := Aside0.mk (blk_new w3 (.cells #[.int .u16 m0, .int .u16 m1, .int .u16 m2, .int .u16 m3, .int .u16 m4, .int .u16 m5, .int .u16 m6, .int .u16 m7, .int .u16 m8, .int .u16 m9, .int .u16 m10, .int .u16 m11] 59)); clear hb3) | (go_at_call 68; refine (hal.out _).mono ?_; rintro e w4 ⟨rfl, hd⟩; have HB4 := Aside0.mk (HB3.out.trans (hd.below.mono HB3.out.size)); have HC4 := Aside0.mk ((hd.below.block _ (blk_lt HC3.out)).trans HC3.out); clear hd) | (go_at_call 73; refine (hfr.out _ _ HC4.out).mono ?_; rintro e w5 ⟨rfl, hb5⟩; have HB5 := Aside0.mk (HB4.out.trans (hb5.mono HB4.out.size)); clear hb5))
        exact bodyPost_ret (v := .tuple #[.slice (some ⟨w5.heap.size, 0, none⟩) 0 0, .int .i64 6]) (by simp [results, Try.results37, go_sem]) rfl ⟨_, rfl, empty_lit HB5.out.size, below_alloc HB5.out _⟩
      · rw [if_neg ct] at h
        simp only [Option.some.injEq, Prod.mk.injEq] at h
        obtain ⟨rfl, rfl⟩ := h
        have ctb : (Go.bits .and .u16 (u / 2 ^ a) 1 == 1) = false := beq_eq_false_iff_ne.mpr ct
        obtain ⟨q, hq⟩ : ∃ q, q = rd (maskL l1) (a : Int) := ⟨_, rfl⟩
        have HQ := Aside0.mk hq
        clear hr1 hc1 hb hc hml hg hz hu ct hq
        go_enter Try.func37, Try.ntmps37
        go_wp2_with (first | (go_at_call 52; refine (hin.out _).mono ?_; rintro e w1 ⟨rfl, hd⟩; have HB1 := Aside0.mk (HB.out.trans (hd.below.mono HB.out.size)); clear hd) | (go_at_call 51; refine (has.out _ HB1.out).mono ?_; rintro e w2 ⟨rfl, hb2⟩; have HB2 := Aside0.mk (HB1.out.trans (hb2.mono HB1.out.size)); clear hb2) | (go_at_call 53; refine (hov.out _ HB2.out).mono ?_; rintro e w3 ⟨rfl, hb3⟩; have HB3 := Aside0.mk (below_alloc (HB2.out.trans (hb3.mono HB2.out.size)) (.cells #[.int .u16 m0, .int .u16 m1, .int .u16 m2, .int .u16 m3, .int .u16 m4, .int .u16 m5, .int .u16 m6, .int .u16 m7, .int .u16 m8, .int .u16 m9, .int .u16 m10, .int .u16 m11] 59)); have HC3 := Aside0.mk (blk_new w3 (.cells #[.int .u16 m0, .int .u16 m1, .int .u16 m2, .int .u16 m3, .int .u16 m4, .int .u16 m5, .int .u16 m6, .int .u16 m7, .int .u16 m8, .int .u16 m9, .int .u16 m10, .int .u16 m11] 59)); clear hb3) | (go_at_call 68; refine (hal.out _).mono ?_; rintro e w4 ⟨rfl, hd⟩; have HB4 := Aside0.mk (HB3.out.trans (hd.below.mono HB3.out.size)); have HC4 := Aside0.mk ((hd.below.block _ (blk_lt HC3.out)).trans HC3.out); clear hd) | (go_at_call 73; refine (hfr.out _ _ HC4.out).mono ?_; rintro e w5 ⟨rfl, hb5⟩; have HB5 := Aside0.mk (HB4.out.trans (hb5.mono HB4.out.size)); have HC5 := Aside0.mk ((hb5.block _ (blk_lt HC4.out)).trans HC4.out); clear hb5; have hc5 := hcell.out _ _ _ HC5.out hu12n; rw [← HQ.out] at hc5))
        clear HB1 HB2 HB3 HB4 HC3 HC4 hc5 hin has hov hal hfr
        generalize w3.heap.size = p at *
        go_loopg [10, 11] 12 (fun gk v10 v11 w' => ∃ x : Nat, v11 = .int .i64 x ∧ v10 = .int .u16 (growN (maskL l1) q x) ∧ Aside0 (x + gk = 12) ∧ Aside0 (w'.heap[p]? = some (.cells #[.int .u16 m0, .int .u16 m1, .int .u16 m2, .int .u16 m3, .int .u16 m4, .int .u16 m5, .int .u16 m6, .int .u16 m7, .int .u16 m8, .int .u16 m9, .int .u16 m10, .int .u16 m11] 59 (0, 0))) ∧ Aside0 (Below w.heap.size w w'))
        case atStart => exact ⟨0, rfl, rfl, ⟨by omega⟩, HC5, HB5⟩
        case round =>
          clear HB5 HC5
          obtain ⟨x, rfl, rfl, HK, HC, HB⟩ := hrel
          by_cases c3 : (x : Int) < 12
          · have hxn : x < 12 := by omega
            have c3b : decide ((x : Int) < 12) = true := decide_eq_true c3
            have c3n : decide (x < 12) = true := decide_eq_true hxn
            have HX : Aside0 (wrap64 ((x : Int) + 1) = ((x + 1 : Nat) : Int)) := ⟨by unfold wrap64; omega⟩
            obtain ⟨s, hs⟩ : ∃ s, s = growN (maskL l1) q x := ⟨_, rfl⟩
            have HS : Aside0 (growN (maskL l1) q (x + 1) = grow (maskL l1) s 12) := ⟨by rw [growN, hs]⟩
            rw [← hs]
            clear c3 hs
            obtain ⟨g1, rfl⟩ : ∃ g1, g1 = gk := ⟨_, rfl⟩
            go_wp2
            go_loopg [10, 12] 12 (fun gk2 v10 v12 w' => ∃ y : Nat, v12 = .int .i64 y ∧ v10 = .int .u16 (grow (maskL l1) s y) ∧ Aside0 (y + gk2 = 12) ∧ Aside0 (w'.heap[p]? = some (.cells #[.int .u16 m0, .int .u16 m1, .int .u16 m2, .int .u16 m3, .int .u16 m4, .int .u16 m5, .int .u16 m6, .int .u16 m7, .int .u16 m8, .int .u16 m9, .int .u16 m10, .int .u16 m11] 59 (0, 0))) ∧ Aside0 (Below w.heap.size w w'))
            case atStart => exact ⟨0, rfl, rfl, ⟨by omega⟩, HC, HB⟩
            case round =>
              clear HB HC
              obtain ⟨y, rfl, rfl, HK2, HC, HB⟩ := hrel
              by_cases c4 : (y : Int) < 12
              · have hyn : y < 12 := by omega
                have c4b : decide ((y : Int) < 12) = true := decide_eq_true c4
                have c4n : decide (y < 12) = true := decide_eq_true hyn
                have HY : Aside0 (wrap64 ((y : Int) + 1) = ((y + 1 : Nat) : Int)) := ⟨by unfold wrap64; omega⟩
                have p0b : decide (0 ≤ (y : Int)) = true := decide_eq_true (by omega)
                have hcy := hcell.out _ _ _ HC.out hyn
                obtain ⟨g, hg⟩ : ∃ g, g = grow (maskL l1) s y := ⟨_, rfl⟩
                obtain ⟨d, hd⟩ : ∃ d, d = rd (maskL l1) (y : Int) := ⟨_, rfl⟩
                rw [← hd] at hcy
                rw [← hg]
                by_cases ct : Go.bits .and .u16 (g / 2 ^ y) 1 = 1
                · have HG : Aside0 (grow (maskL l1) s (y + 1) = Go.bits .or .u16 g d) := ⟨by simp only [grow]; rw [← hg, if_pos ct, hd]⟩
                  have ctb : (Go.bits .and .u16 (g / 2 ^ y) 1 == 1) = true := beq_iff_eq.mpr ct
                  clear c4 ct hg hd
                  go_wp2
                  go_roundg (gk - 1)
                  case measure => have := HK2.out; omega
                  case rel => exact ⟨y + 1, by first | rfl | rw [HY.out], congrArg (Value.int .u16) HG.out.symm, ⟨by have := HK2.out; omega⟩, HC, HB⟩
                · have HG : Aside0 (grow (maskL l1) s (y + 1) = g) := ⟨by simp only [grow]; rw [← hg, if_neg ct]⟩
                  have ctb : (Go.bits .and .u16 (g / 2 ^ y) 1 == 1) = false := beq_eq_false_iff_ne.mpr ct
                  clear c4 ct hg hd
                  go_wp2
                  go_roundg (gk - 1)
                  case measure => have := HK2.out; omega
                  case rel => exact ⟨y + 1, by first | rfl | rw [HY.out], congrArg (Value.int .u16) HG.out.symm, ⟨by have := HK2.out; omega⟩, HC, HB⟩
              · have c4b : decide ((y : Int) < 12) = false := decide_eq_false c4
                have hy : y = 12 := by have := HK2.out; omega
                subst hy
                clear c4
                go_wp2
                go_roundg (g1 - 1)
                case measure => have := HK.out; omega
                case rel => exact ⟨x + 1, by first | rfl | rw [HX.out], congrArg (Value.int .u16) HS.out.symm, ⟨by have := HK.out; omega⟩, HC, HB⟩
          · have c3b : decide ((x : Int) < 12) = false := decide_eq_false c3
            have hx : x = 12 := by have := HK.out; omega
            subst hx
            clear c3
            go_wp2_with (first | (go_at_call 54; refine (hli.out _ _).mono ?_; rintro e w6 ⟨v6, rfl, hv6, hb6⟩; have HV6 := Aside0.mk (And.intro hv6 hb6); clear hv6 hb6))
            have hv6 := HV6.out.1
            rw [HQ.out] at hv6
            exact bodyPost_ret (v := .tuple #[v6, .int .i64 0]) (by simp [results, Try.results37, go_sem]) rfl ⟨_, rfl, Kd.R_lower hv6 HB.out.size, HB.out.trans (HV6.out.2.mono HB.out.size)⟩
    · rw [if_neg hg] at h; cases h
  · rw [if_neg hc0] at h
    simp only [Option.some.injEq, Prod.mk.injEq] at h
    obtain ⟨rfl, rfl⟩ := h
    have hcb : (c == 0) = false := beq_eq_false_iff_ne.mpr hc0
    have hcb' : (c != 0) = true := bne_iff_ne.mpr hc0
    clear hr1 hc1 hb hc hc0
    go_enter Try.func37, Try.ntmps37
    go_wp2_with (first | (go_at_call 52; refine (hin.out _).mono ?_; rintro e w1 ⟨rfl, hd⟩; have HB1 := Aside0.mk (HB.out.trans (hd.below.mono HB.out.size)); clear hd) | (go_at_call 51; refine (has.out _ HB1.out).mono ?_; rintro e w2 ⟨rfl, hb2⟩; have HB2 := Aside0.mk (HB1.out.trans (hb2.mono HB1.out.size)); clear hb2))
    exact bodyPost_ret (v := .tuple #[.slice (some ⟨w2.heap.size, 0, none⟩) 0 0, .int .i64 c]) (by simp [results, Try.results37, go_sem]) rfl ⟨_, rfl, empty_lit HB2.out.size, below_alloc HB2.out _⟩

/-! ### impl_isChain: function 86 -/
def impl_isChain.f (a0 : Int) (a1 : Int) : Option (Bool) := if a1 ≥ 0 then (some (decide (a1 < a0))) else (some false)
set_option maxHeartbeats 8000000 in
set_option maxRecDepth 100000 in
theorem impl_isChain.calls (a0 : Int) (a1 : Int) (r : Bool) (w : World) (h : impl_isChain.f a0 a1 = some r) :
    Calls Try.prog 86 #[.int .i64 a0, .int .i64 a1] w fun e w' => e = .returned (.bool r) ∧ Drawn0 w w' := by
  have H : (if a1 ≥ 0 then (some (decide (a1 < a0))) else (some false)) = some r := h
  clear h
  by_cases c3 : a1 ≥ 0
  · rw [if_pos c3] at H
    have c3b0 : decide (0 ≤ a1) = true := decide_eq_true c3
    clear c3
    obtain rfl := Option.some.inj H
    go_enter Try.func86, Try.ntmps86
    go_wp2
    go_ret
    exact ⟨by first | rfl | (simp; done) | (simp [*]; done), by repeat (first | exact Drawn0.refl _ | apply Drawn0.step)⟩
  · rw [if_neg c3] at H
    have c3b0 : decide (0 ≤ a1) = false := decide_eq_false c3
    clear c3
    obtain rfl := Option.some.inj H
    go_enter Try.func86, Try.ntmps86
    go_wp2
    go_ret
    exact ⟨by first | rfl | (simp; done) | (simp [*]; done), by repeat (first | exact Drawn0.refl _ | apply Drawn0.step)⟩

end Go.Proofs.Ytjcdgimldhodiaa.PFnExactEarliestLeave
