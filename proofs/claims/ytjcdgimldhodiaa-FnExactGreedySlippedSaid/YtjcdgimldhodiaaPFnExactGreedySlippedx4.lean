/- Printed by this session's plus.py out of the translation, some functions' texts being this session's own. -/
import Derived.Test.YtjcdgimldhodiaaPFnExactGreedySlippedx0
import Derived.Test.YtjcdgimldhodiaaPFnExactGreedySlippedx1
import Derived.Test.YtjcdgimldhodiaaPFnExactGreedySlippedx3
namespace Go.Proofs.Ytjcdgimldhodiaa.PFnExactGreedySlipped
open Go.RowKit Go.Proofs.YtjcdgimldhodiaaW.PrintWords Go.Proofs.YtjcdgimldhodiaaW.PrintLast Go.Proofs.YtjcdgimldhodiaaW.PrintMore
attribute [local go_sem] max2_int min2_int max_two min_two max_three min_three max_four min_four   -- for this text's walks alone
set_option linter.unusedVariables false
set_option linter.unusedSimpArgs false

attribute [local go_sem high] eqA64
/-! ### spec_l03Over: function 53: this session's own text -/
theorem cell_of_ints {w : World} {g t : Nat} {k : IntKind} {xs : List Int} (h : w.heap[g]? = some (.cells (xs.map (Value.int k)).toArray t (0, 0))) {i : Int} (hi : i.toNat < xs.length) : w.cell? ⟨g, i.toNat, none⟩ = some (.int k (rd xs i)) := by
  rw [blk_cell h]
  simp [rd, List.getD_eq_getElem?_getD, List.getElem?_eq_getElem hi]
theorem ints_put {w : World} {g t : Nat} {k : IntKind} {xs : List Int} (h : w.heap[g]? = some (.cells (xs.map (Value.int k)).toArray t (0, 0))) (i : Nat) (u : Int) : (w.setCell ⟨g, i, none⟩ (.int k u)).heap[g]? = some (.cells ((xs.set i u).map (Value.int k)).toArray t (0, 0)) :=
  blk_put h i _ (by simp [List.map_set])
theorem drop_rd {α : Type} {xs : List α} {i : Int} (d : α) (h0 : 0 ≤ i) (h : i < (xs.length : Int)) : xs.drop i.toNat = xs.getD i.toNat d :: xs.drop (i + 1).toNat := by
  rw [show (i + 1).toNat = i.toNat + 1 by omega, List.drop_eq_getElem_cons (by omega), List.getD_eq_getElem?_getD, List.getElem?_eq_getElem (by omega)]
  rfl
theorem w64_in {a : Int} (h0 : -9223372036854775808 ≤ a) (h1 : a ≤ 9223372036854775807) : wrap64 a = a := by unfold wrap64; omega
theorem wi64 {a : Int} (h0 : -9223372036854775808 ≤ a) (h1 : a ≤ 9223372036854775807) : IntKind.i64.wrap a = a := by
  have : IntKind.i64.wrap a = if a % 18446744073709551616 ≥ 9223372036854775808 then a % 18446744073709551616 - 18446744073709551616 else a % 18446744073709551616 := by
    simp [IntKind.wrap, IntKind.signed, IntKind.bits]
  rw [this]
  split <;> omega

/-- W' is W but for the blocks that S tells, and for new ones. -/
structure Only (S : Nat → Prop) (W W' : World) : Prop where
  os : W'.os = W.os
  tape : W'.tape = W.tape
  output : W'.output = W.output
  size : W.heap.size ≤ W'.heap.size
  block : ∀ b, b < W.heap.size → ¬ S b → W'.heap[b]? = W.heap[b]?
theorem Only.refl (S : Nat → Prop) (W : World) : Only S W W := ⟨rfl, rfl, rfl, Nat.le_refl _, fun _ _ _ => rfl⟩
theorem Only.trans {S : Nat → Prop} {a b c : World} (h : Only S a b) (k : Only S b c) : Only S a c :=
  ⟨k.os.trans h.os, k.tape.trans h.tape, k.output.trans h.output, Nat.le_trans h.size k.size, fun i hi hs => (k.block i (Nat.lt_of_lt_of_le hi h.size) hs).trans (h.block i hi hs)⟩
theorem Only.mono {S S' : Nat → Prop} {a b : World} (h : Only S a b) (hs : ∀ i, S i → S' i) : Only S' a b := ⟨h.os, h.tape, h.output, h.size, fun i hi hn => h.block i hi (fun g => hn (hs i g))⟩
theorem Only.of_below {S : Nat → Prop} {a b : World} (h : Below a.heap.size a b) : Only S a b := ⟨h.os, h.tape, h.output, h.size, fun i hi _ => h.block i hi⟩
theorem Only.set {S : Nat → Prop} {a b : World} (h : Only S a b) {g : Nat} (hg : S g) (j : Nat) (v : Value) : Only S a (b.setCell ⟨g, j, none⟩ v) :=
  h.trans ⟨rfl, rfl, rfl, by simp [World.setCell], fun i hi hn => Below.heap_setCell _ _ _ _ (fun e => hn (by subst e; exact hg))⟩
theorem Only.alloc {S : Nat → Prop} {a b : World} (h : Only S a b) (o : Obj) : Only S a (b.alloc o) := h.trans (Only.of_below ((Below.refl _ _).alloc (Nat.le_refl _) o))
theorem Only.drewN {S : Nat → Prop} {a b : World} (h : Only S a b) (n : Nat) : Only S a (b.drewN n) := h.trans (Only.of_below (pw_below_drewN (Below.refl _ _) n))
theorem Only.drew {S : Nat → Prop} {a b : World} (h : Only S a b) : Only S a b.drew := h.trans (Only.of_below (below_drew (Below.refl _ _)))
theorem Only.blk {S : Nat → Prop} {a b : World} (h : Only S a b) {g : Nat} {o : Obj} (ho : a.heap[g]? = some o) (hg : ¬ S g) : b.heap[g]? = some o := (h.block g (blk_lt ho) hg).trans ho
theorem Only.below {S : Nat → Prop} {w a b : World} {B : Nat} (hb : Below B w a) (h : Only S a b) (hB : B ≤ a.heap.size) (hs : ∀ i, S i → B ≤ i) : Below B w b :=
  hb.trans ⟨h.os, h.tape, h.output, h.size, fun i hi => h.block i (by omega) (fun g => by have := hs i g; omega)⟩
theorem Only.to_below {S : Nat → Prop} {a b : World} (h : Only S a b) (hs : ∀ i, ¬ S i) : Below a.heap.size a b := ⟨h.os, h.tape, h.output, h.size, fun i hi => h.block i hi (hs i)⟩

/-- One cover more in the masks. -/
def orS (m : List Int) (x : S64) : List Int := m.set x.f1.toNat (Go.bits .or .u16 (rd m x.f1) (IntKind.u16.wrap (2 ^ min (IntKind.u64.wrap x.f0).toNat 16)))
/-- The masks of what lies over each chain. -/
def maskL (l : List S64) : List Int := l.foldl orS [0, 0, 0, 0, 0, 0, 0, 0, 0, 0, 0, 0]
theorem orS_length (m : List Int) (x : S64) : (orS m x).length = m.length := by simp [orS]
def spec_l03Over.f (l0 : List S64) : Option Bool := if l0.length ≤ 1048576 ∧ ∀ x ∈ l0, (0 ≤ x.f0 ∧ x.f0 < 12) ∧ (0 ≤ x.f1 ∧ x.f1 < 12) then some true else none
set_option maxHeartbeats 4000000 in
set_option maxRecDepth 100000 in
theorem spec_l03Over.calls (A0 : Option Addr) (c0 : Nat) (l0 : List (S64)) (w : World) (hr0 : Kd.C k64 w A0 l0.length l0) (hc0 : l0.length ≤ c0) (h : spec_l03Over.f l0 = some true) :
    Calls Try.prog 53 #[.slice A0 l0.length c0] w fun e w' => e = .returned (.agg ((maskL l0).map (Value.int .u16)).toArray) ∧ Below w.heap.size w w' := by
  unfold spec_l03Over.f at h
  by_cases hh : l0.length ≤ 1048576 ∧ ∀ x ∈ l0, (0 ≤ x.f0 ∧ x.f0 < 12) ∧ (0 ≤ x.f1 ∧ x.f1 < 12)
  · clear h
    have HH := Aside0.mk hh
    have HR0 := Aside0.mk hr0
    have HC0 := Aside0.mk hc0
    have HB := Aside0.mk (Below.refl w.heap.size w)
    clear hh hr0 hc0
    go_enter Try.func53, Try.ntmps53
    go_wp2
    go_loopg [4] l0.length (fun gk v4 w' => ∃ x : Nat, v4 = .int .i64 x ∧ Aside0 (x + gk = l0.length) ∧ Aside0 (w'.heap[w.heap.size + 1]? = some (.cells ((maskL (l0.take x)).map (Value.int .u16)).toArray 59 (0, 0))) ∧ Aside0 (w'.heap[w.heap.size]? = some (.cells (([0, 0, 0, 0, 0, 0, 0, 0, 0, 0, 0, 0] : List Int).map (Value.int .u16)).toArray 59 (0, 0))) ∧ Aside0 (Below w.heap.size w w'))
    case atStart =>
      have s1 : (w.alloc (.cells #[.int .u16 0, .int .u16 0, .int .u16 0, .int .u16 0, .int .u16 0, .int .u16 0, .int .u16 0, .int .u16 0, .int .u16 0, .int .u16 0, .int .u16 0, .int .u16 0] 59)).heap.size = w.heap.size + 1 := by simp
      have b1 := blk_new (w.alloc (.cells #[.int .u16 0, .int .u16 0, .int .u16 0, .int .u16 0, .int .u16 0, .int .u16 0, .int .u16 0, .int .u16 0, .int .u16 0, .int .u16 0, .int .u16 0, .int .u16 0] 59)) (.cells #[.int .u16 0, .int .u16 0, .int .u16 0, .int .u16 0, .int .u16 0, .int .u16 0, .int .u16 0, .int .u16 0, .int .u16 0, .int .u16 0, .int .u16 0, .int .u16 0] 59)
      rw [s1] at b1
      exact ⟨0, rfl, ⟨by omega⟩, ⟨b1⟩, ⟨blk_alloc (blk_new w _) _⟩, ⟨below_alloc (below_alloc HB.out _) _⟩⟩
    case round =>
      clear HB
      obtain ⟨x, rfl, HK, HS, HZ, HB⟩ := hrel
      by_cases c3 : (x : Int) < (l0.length : Int)
      · have p0 : 0 ≤ (x : Int) := by omega
        have hxn : x < l0.length := by omega
        obtain ⟨ad0, e0, hx0_0, hx0_1⟩ := at_T64 HR0.out x p0 c3
        cases e0
        replace hx0_0 := (HB.out.cell (World.block_lt_of_cell? w _ hx0_0)).trans hx0_0
        replace hx0_1 := (HB.out.cell (World.block_lt_of_cell? w _ hx0_1)).trans hx0_1
        simp only [Int.toNat_natCast] at hx0_0 hx0_1
        have hrd : rd_T64 l0 x = l0[x] := by rw [rd_T64, Int.toNat_natCast, List.getD_eq_getElem?_getD, List.getElem?_eq_getElem hxn]; rfl
        have hin := HH.out.2 l0[x] (List.getElem_mem hxn)
        rw [hrd] at hx0_0 hx0_1
        obtain ⟨u, hun⟩ : ∃ u : Nat, l0[x].f1 = (u : Int) := ⟨l0[x].f1.toNat, by omega⟩
        obtain ⟨v, hvn⟩ : ∃ v : Int, l0[x].f0 = v := ⟨_, rfl⟩
        rw [hun] at hx0_1
        rw [hvn] at hx0_0
        have hu12 : (u : Int) < 12 := by omega
        obtain ⟨m, hm⟩ : ∃ m, m = maskL (l0.take x) := ⟨_, rfl⟩
        have HSm := HS.out
        rw [← hm] at HSm
        have hml : m.length = 12 := by
          have key : ∀ (l : List S64) (m : List Int), (l.foldl orS m).length = m.length := by
            intro l
            induction l with
            | nil => intro m; rfl
            | cons y l ih => intro m; rw [List.foldl_cons, ih, orS_length]
          rw [hm]; exact key _ _
        have hs : wr.cell? ⟨w.heap.size + 1, u, none⟩ = some (.int .u16 (rd m (u : Int))) := by
          have := cell_of_ints HSm (i := (u : Int)) (by rw [hml, Int.toNat_natCast]; omega)
          rwa [Int.toNat_natCast] at this
        have hfz : wr.frozen? ⟨w.heap.size + 1, u, none⟩ = false := blk_frozen HSm u
        have HM : Aside0 (maskL (l0.take (x + 1)) = m.set u (Go.bits .or .u16 (rd m (u : Int)) (IntKind.u16.wrap (2 ^ min (IntKind.u64.wrap v).toNat 16)))) := ⟨by
          rw [List.take_succ_eq_append_getElem hxn]
          unfold maskL at hm ⊢
          rw [List.foldl_append, ← hm]
          show orS m l0[x] = _
          unfold orS
          rw [hun, hvn, Int.toNat_natCast]⟩
        have HSM := Aside0.mk HSm
        have HV : Aside0 (0 ≤ v ∧ v < 12) := ⟨by omega⟩
        have HX : Aside0 (wrap64 ((x : Int) + 1) = ((x + 1 : Nat) : Int)) := ⟨by have := HH.out.1; unfold wrap64; omega⟩
        have c3b : decide ((x : Int) < (l0.length : Int)) = true := decide_eq_true c3
        have c3n : decide (x < l0.length) = true := decide_eq_true hxn
        have p0b : decide (0 ≤ (x : Int)) = true := decide_eq_true p0
        have hu := Try.underlying64
        clear p0 hrd hin hun hvn hm hml HSm
        go_wp2
        go_region
        all_goals go_wp2
        all_goals
          go_roundg (gk - 1)
          case measure => have := HK.out; omega
          case rel =>
            exact ⟨x + 1, by first | rfl | rw [HX.out], ⟨by have := HK.out; omega⟩, ⟨by rw [HM.out]; exact blk_drew (ints_put HSM.out u _)⟩, ⟨blk_drew (blk_far HZ.out (show w.heap.size ≠ w.heap.size + 1 by omega) _)⟩, ⟨below_drew (HB.out.setCell (show w.heap.size ≤ w.heap.size + 1 by omega) _)⟩⟩
      · have c3b : decide ((x : Int) < (l0.length : Int)) = false := decide_eq_false c3
        have c3n : decide (x < l0.length) = false := decide_eq_false (by omega)
        have hx : l0.take x = l0 := List.take_of_length_le (by omega)
        have hml : (maskL l0).length = 12 := by
          have key : ∀ (l : List S64) (m : List Int), (l.foldl orS m).length = m.length := by
            intro l
            induction l with
            | nil => intro m; rfl
            | cons y l ih => intro m; rw [List.foldl_cons, ih, orS_length]
          exact key _ _
        have HSm := HS.out
        rw [hx] at HSm
        obtain ⟨m, hm⟩ : ∃ m, m = maskL l0 := ⟨_, rfl⟩
        rw [← hm] at HSm hml
        obtain ⟨v0, v1, v2, v3, v4, v5, v6, v7, v8, v9, v10, v11, rfl⟩ : ∃ v0 v1 v2 v3 v4 v5 v6 v7 v8 v9 v10 v11 : Int, m = [v0, v1, v2, v3, v4, v5, v6, v7, v8, v9, v10, v11] := by
          match m, hml with
          | [v0, v1, v2, v3, v4, v5, v6, v7, v8, v9, v10, v11], _ => exact ⟨v0, v1, v2, v3, v4, v5, v6, v7, v8, v9, v10, v11, rfl⟩
        have hc0 : wr.cell? ⟨w.heap.size + 1, 0, none⟩ = some (.int .u16 v0) := blk_cell HSm 0
        have hz0 : wr.cell? ⟨w.heap.size, 0, none⟩ = some (.int .u16 0) := blk_cell HZ.out 0
        have hc1 : wr.cell? ⟨w.heap.size + 1, 1, none⟩ = some (.int .u16 v1) := blk_cell HSm 1
        have hz1 : wr.cell? ⟨w.heap.size, 1, none⟩ = some (.int .u16 0) := blk_cell HZ.out 1
        have hc2 : wr.cell? ⟨w.heap.size + 1, 2, none⟩ = some (.int .u16 v2) := blk_cell HSm 2
        have hz2 : wr.cell? ⟨w.heap.size, 2, none⟩ = some (.int .u16 0) := blk_cell HZ.out 2
        have hc3 : wr.cell? ⟨w.heap.size + 1, 3, none⟩ = some (.int .u16 v3) := blk_cell HSm 3
        have hz3 : wr.cell? ⟨w.heap.size, 3, none⟩ = some (.int .u16 0) := blk_cell HZ.out 3
        have hc4 : wr.cell? ⟨w.heap.size + 1, 4, none⟩ = some (.int .u16 v4) := blk_cell HSm 4
        have hz4 : wr.cell? ⟨w.heap.size, 4, none⟩ = some (.int .u16 0) := blk_cell HZ.out 4
        have hc5 : wr.cell? ⟨w.heap.size + 1, 5, none⟩ = some (.int .u16 v5) := blk_cell HSm 5
        have hz5 : wr.cell? ⟨w.heap.size, 5, none⟩ = some (.int .u16 0) := blk_cell HZ.out 5
        have hc6 : wr.cell? ⟨w.heap.size + 1, 6, none⟩ = some (.int .u16 v6) := blk_cell HSm 6
        have hz6 : wr.cell? ⟨w.heap.size, 6, none⟩ = some (.int .u16 0) := blk_cell HZ.out 6
        have hc7 : wr.cell? ⟨w.heap.size + 1, 7, none⟩ = some (.int .u16 v7) := blk_cell HSm 7
        have hz7 : wr.cell? ⟨w.heap.size, 7, none⟩ = some (.int .u16 0) := blk_cell HZ.out 7
        have hc8 : wr.cell? ⟨w.heap.size + 1, 8, none⟩ = some (.int .u16 v8) := blk_cell HSm 8
        have hz8 : wr.cell? ⟨w.heap.size, 8, none⟩ = some (.int .u16 0) := blk_cell HZ.out 8
        have hc9 : wr.cell? ⟨w.heap.size + 1, 9, none⟩ = some (.int .u16 v9) := blk_cell HSm 9
        have hz9 : wr.cell? ⟨w.heap.size, 9, none⟩ = some (.int .u16 0) := blk_cell HZ.out 9
        have hc10 : wr.cell? ⟨w.heap.size + 1, 10, none⟩ = some (.int .u16 v10) := blk_cell HSm 10
        have hz10 : wr.cell? ⟨w.heap.size, 10, none⟩ = some (.int .u16 0) := blk_cell HZ.out 10
        have hc11 : wr.cell? ⟨w.heap.size + 1, 11, none⟩ = some (.int .u16 v11) := blk_cell HSm 11
        have hz11 : wr.cell? ⟨w.heap.size, 11, none⟩ = some (.int .u16 0) := blk_cell HZ.out 11
        have hf : ∀ j, wr.frozen? ⟨w.heap.size, j, none⟩ = false := fun j => blk_frozen HZ.out j
        have HM := Aside0.mk hm
        clear c3 hm hml HSm
        go_wp2
        have hw := (ints_put (ints_put (ints_put (ints_put (ints_put (ints_put (ints_put (ints_put (ints_put (ints_put (ints_put (ints_put HZ.out 0 v0) 1 v1) 2 v2) 3 v3) 4 v4) 5 v5) 6 v6) 7 v7) 8 v8) 9 v9) 10 v10) 11 v11)
        rw [show ((((((((((((([0, 0, 0, 0, 0, 0, 0, 0, 0, 0, 0, 0] : List Int).set 0 v0).set 1 v1).set 2 v2).set 3 v3).set 4 v4).set 5 v5).set 6 v6).set 7 v7).set 8 v8).set 9 v9).set 10 v10).set 11 v11) = [v0, v1, v2, v3, v4, v5, v6, v7, v8, v9, v10, v11] from rfl] at hw
        have hO := (Only.set (S := (· = w.heap.size)) (Only.set (S := (· = w.heap.size)) (Only.set (S := (· = w.heap.size)) (Only.set (S := (· = w.heap.size)) (Only.set (S := (· = w.heap.size)) (Only.set (S := (· = w.heap.size)) (Only.set (S := (· = w.heap.size)) (Only.set (S := (· = w.heap.size)) (Only.set (S := (· = w.heap.size)) (Only.set (S := (· = w.heap.size)) (Only.set (S := (· = w.heap.size)) (Only.set (S := (· = w.heap.size)) (Only.refl (· = w.heap.size) wr) rfl 0 (.int .u16 v0)) rfl 1 (.int .u16 v1)) rfl 2 (.int .u16 v2)) rfl 3 (.int .u16 v3)) rfl 4 (.int .u16 v4)) rfl 5 (.int .u16 v5)) rfl 6 (.int .u16 v6)) rfl 7 (.int .u16 v7)) rfl 8 (.int .u16 v8)) rfl 9 (.int .u16 v9)) rfl 10 (.int .u16 v10)) rfl 11 (.int .u16 v11))
        obtain ⟨Wf, hWf⟩ : ∃ W', W' = ((((((((((((wr.setCell ⟨w.heap.size, 0, none⟩ (.int .u16 v0)).setCell ⟨w.heap.size, 1, none⟩ (.int .u16 v1)).setCell ⟨w.heap.size, 2, none⟩ (.int .u16 v2)).setCell ⟨w.heap.size, 3, none⟩ (.int .u16 v3)).setCell ⟨w.heap.size, 4, none⟩ (.int .u16 v4)).setCell ⟨w.heap.size, 5, none⟩ (.int .u16 v5)).setCell ⟨w.heap.size, 6, none⟩ (.int .u16 v6)).setCell ⟨w.heap.size, 7, none⟩ (.int .u16 v7)).setCell ⟨w.heap.size, 8, none⟩ (.int .u16 v8)).setCell ⟨w.heap.size, 9, none⟩ (.int .u16 v9)).setCell ⟨w.heap.size, 10, none⟩ (.int .u16 v10)).setCell ⟨w.heap.size, 11, none⟩ (.int .u16 v11)) := ⟨_, rfl⟩
        rw [← hWf] at hw hO ⊢
        clear hWf
        have hr0 : Wf.cell? ⟨w.heap.size, 0, none⟩ = some (.int .u16 v0) := blk_cell hw 0
        have hr1 : Wf.cell? ⟨w.heap.size, 1, none⟩ = some (.int .u16 v1) := blk_cell hw 1
        have hr2 : Wf.cell? ⟨w.heap.size, 2, none⟩ = some (.int .u16 v2) := blk_cell hw 2
        have hr3 : Wf.cell? ⟨w.heap.size, 3, none⟩ = some (.int .u16 v3) := blk_cell hw 3
        have hr4 : Wf.cell? ⟨w.heap.size, 4, none⟩ = some (.int .u16 v4) := blk_cell hw 4
        have hr5 : Wf.cell? ⟨w.heap.size, 5, none⟩ = some (.int .u16 v5) := blk_cell hw 5
        have hr6 : Wf.cell? ⟨w.heap.size, 6, none⟩ = some (.int .u16 v6) := blk_cell hw 6
        have hr7 : Wf.cell? ⟨w.heap.size, 7, none⟩ = some (.int .u16 v7) := blk_cell hw 7
        have hr8 : Wf.cell? ⟨w.heap.size, 8, none⟩ = some (.int .u16 v8) := blk_cell hw 8
        have hr9 : Wf.cell? ⟨w.heap.size, 9, none⟩ = some (.int .u16 v9) := blk_cell hw 9
        have hr10 : Wf.cell? ⟨w.heap.size, 10, none⟩ = some (.int .u16 v10) := blk_cell hw 10
        have hr11 : Wf.cell? ⟨w.heap.size, 11, none⟩ = some (.int .u16 v11) := blk_cell hw 11
        have HO := Aside0.mk hO
        clear hw hO hf hc0 hz0 hc1 hz1 hc2 hz2 hc3 hz3 hc4 hz4 hc5 hz5 hc6 hz6 hc7 hz7 hc8 hz8 hc9 hz9 hc10 hz10 hc11 hz11
        exact bodyPost_ret (v := .agg #[.int .u16 v0, .int .u16 v1, .int .u16 v2, .int .u16 v3, .int .u16 v4, .int .u16 v5, .int .u16 v6, .int .u16 v7, .int .u16 v8, .int .u16 v9, .int .u16 v10, .int .u16 v11]) (by simp [results, Try.results53, go_sem, hr0, hr1, hr2, hr3, hr4, hr5, hr6, hr7, hr8, hr9, hr10, hr11]) rfl ⟨by rw [← HM.out]; rfl, Only.below HB.out HO.out HB.out.size (fun i hi => by subst hi; omega)⟩
  · rw [if_neg hh] at h; cases h

/-! ### spec_l03All: function 68 -/
def spec_l03All.f (a0 : Int) : Option (Int) := if 0 ≤ (IntKind.u64.wrap (a0)) then (some (IntKind.u16.wrap ((shl .u16 1 (IntKind.u64.wrap (a0))) - 1))) else (none)
set_option maxHeartbeats 8000000 in
set_option maxRecDepth 100000 in
theorem spec_l03All.calls (a0 : Int) (r : Int) (w : World) (h : spec_l03All.f a0 = some r) :
    Calls Try.prog 68 #[.int .i64 a0] w fun e w' => e = .returned (.int .u16 r) ∧ Drawn0 w w' := by
  have H : (if 0 ≤ (IntKind.u64.wrap (a0)) then (some (IntKind.u16.wrap ((shl .u16 1 (IntKind.u64.wrap (a0))) - 1))) else (none)) = some r := h
  clear h
  obtain ⟨ji2, hji2⟩ : ∃ j_ : Int, (IntKind.u64.wrap (a0)) = j_ := ⟨_, rfl⟩
  replace H : (if 0 ≤ (ji2) then (some (IntKind.u16.wrap ((shl .u16 1 (ji2)) - 1))) else (none)) = some r := by first | (rw [hji2] at H; exact H) | (simp only [hji2] at H ⊢; exact H)
  by_cases c3 : 0 ≤ (ji2)
  · rw [if_pos c3] at H
    have c3b0 := eq_true c3
    have c3b1 : decide (0 ≤ (ji2)) = true := decide_eq_true c3
    clear c3
    obtain ⟨ji4, hji4⟩ : ∃ j_ : Int, (shl .u16 1 (ji2)) = j_ := ⟨_, rfl⟩
    replace H : (some (IntKind.u16.wrap ((ji4) - 1))) = some r := by first | (rw [hji4] at H; exact H) | (simp only [hji4] at H ⊢; exact H)
    have hji4_ : (IntKind.u16.wrap (1 * 2 ^ min (ji2).toNat 16)) = ji4 := hji4
    have hji4z : (ji2) ≤ 16 → (IntKind.u16.wrap (1 * 2 ^ (ji2).toNat)) = ji4 := shl_small hji4
    have hji4u : (IntKind.u16.wrap (2 ^ min (ji2).toNat 16)) = ji4 := by have h_ := hji4_; rw [Int.one_mul] at h_; exact h_
    have hji4v : (ji2) ≤ 16 → (IntKind.u16.wrap (2 ^ (ji2).toNat)) = ji4 := fun hle_ => by have h_ := hji4z hle_; rw [Int.one_mul] at h_; exact h_
    obtain rfl := Option.some.inj H
    go_enter Try.func68, Try.ntmps68
    go_wp2
    go_ret
    exact ⟨by first | rfl | (simp; done) | (simp only [← hji2, ← hji4] <;> (first | rfl | simp)) | (simp [*]; done), by repeat (first | exact Drawn0.refl _ | apply Drawn0.step)⟩
  · rw [if_neg c3] at H
    exact absurd H (by simp)

/-! ### spec_l03Free: function 67: this session's own text -/
/-- The bit of a number. -/
def bitN (x : Nat) : Int := IntKind.u16.wrap (2 ^ x)
/-- Those of the first numbers that are free. -/
def freeB (m : List Int) (s : Int) : Nat → Int
  | 0 => 0
  | x + 1 => if Go.bits .and .u16 s (bitN x) ≠ 0 ∧ Go.bits .and .u16 (rd m x) s = 0 then Go.bits .or .u16 (freeB m s x) (bitN x) else freeB m s x
def spec_l03Free.f (l0 : List Int) (a1 : Int) : Option Int := if l0.length = 12 then some (freeB l0 a1 12) else none
set_option maxHeartbeats 4000000 in
set_option maxRecDepth 100000 in
theorem spec_l03Free.calls (p : Nat) (m : List Int) (s r : Int) (w : World) (hb : w.heap[p]? = some (.cells (m.map (Value.int .u16)).toArray 59 (0, 0))) (h : spec_l03Free.f m s = some r) :
    Calls Try.prog 67 #[.pointer (some ⟨p, 0, none⟩), .int .u16 s] w fun e w' => e = .returned (.int .u16 r) ∧ Below w.heap.size w w' := by
  unfold spec_l03Free.f at h
  by_cases hh : m.length = 12
  · rw [if_pos hh] at h
    obtain rfl := Option.some.inj h
    have HM := Aside0.mk (And.intro hh hb)
    have HB := Aside0.mk (Below.refl w.heap.size w)
    clear hh hb h
    go_enter Try.func67, Try.ntmps67
    go_wp2
    go_loopg [5, 6] 12 (fun gk v5 v6 w' => ∃ x : Nat, v6 = .int .i64 x ∧ v5 = .int .u16 (freeB m s x) ∧ Aside0 (x + gk = 12) ∧ Aside0 (Below w.heap.size w w'))
    case atStart => exact ⟨0, rfl, rfl, ⟨by omega⟩, HB⟩
    case round =>
      clear HB
      obtain ⟨x, rfl, rfl, HK, HB⟩ := hrel
      by_cases c3 : (x : Int) < 12
      · have hxn : x < 12 := by omega
        have hs : wr.cell? ⟨p, x, none⟩ = some (.int .u16 (rd m (x : Int))) := by
          have := cell_of_ints HM.out.2 (i := (x : Int)) (by rw [HM.out.1, Int.toNat_natCast]; omega)
          rw [Int.toNat_natCast] at this
          exact (HB.out.cell (World.block_lt_of_cell? w _ this)).trans this
        have HX : Aside0 (wrap64 ((x : Int) + 1) = ((x + 1 : Nat) : Int)) := ⟨by unfold wrap64; omega⟩
        have c3b : decide ((x : Int) < 12) = true := decide_eq_true c3
        have c3n : decide (x < 12) = true := decide_eq_true hxn
        have p0b : decide (0 ≤ (x : Int)) = true := decide_eq_true (by omega)
        clear c3
        by_cases c1 : Go.bits .and .u16 s (bitN x) = 0
        · have HF : Aside0 (freeB m s (x + 1) = freeB m s x) := ⟨by simp only [freeB]; rw [if_neg (fun g => g.1 c1)]⟩
          have c1b : (Go.bits .and .u16 s (IntKind.u16.wrap (2 ^ x)) != 0) = false := bne_eq_false_iff_eq.mpr c1
          have c1c : (Go.bits .and .u16 s (IntKind.u16.wrap (2 ^ x)) == 0) = true := beq_iff_eq.mpr c1
          clear c1
          go_wp2
          go_roundg (gk - 1)
          case measure => have := HK.out; omega
          case rel => exact ⟨x + 1, by first | rfl | rw [HX.out], by rw [HF.out], ⟨by have := HK.out; omega⟩, ⟨by repeat (first | (with_reducible exact HB.out) | apply pw_below_drewN | apply below_drew)⟩⟩
        · have c1b : (Go.bits .and .u16 s (IntKind.u16.wrap (2 ^ x)) != 0) = true := bne_iff_ne.mpr c1
          have c1c : (Go.bits .and .u16 s (IntKind.u16.wrap (2 ^ x)) == 0) = false := beq_eq_false_iff_ne.mpr c1
          by_cases c2 : Go.bits .and .u16 (rd m x) s = 0
          · have HF : Aside0 (freeB m s (x + 1) = Go.bits .or .u16 (freeB m s x) (bitN x)) := ⟨by simp only [freeB]; rw [if_pos ⟨c1, c2⟩]⟩
            have c2b : (Go.bits .and .u16 (rd m x) s == 0) = true := beq_iff_eq.mpr c2
            have c2c : (Go.bits .and .u16 (rd m x) s != 0) = false := bne_eq_false_iff_eq.mpr c2
            clear c1 c2
            go_wp2
            go_roundg (gk - 1)
            case measure => have := HK.out; omega
            case rel => exact ⟨x + 1, by first | rfl | rw [HX.out], congrArg (Value.int .u16) HF.out.symm, ⟨by have := HK.out; omega⟩, ⟨by repeat (first | (with_reducible exact HB.out) | apply pw_below_drewN | apply below_drew)⟩⟩
          · have HF : Aside0 (freeB m s (x + 1) = freeB m s x) := ⟨by simp only [freeB]; rw [if_neg (fun g => c2 g.2)]⟩
            have c2b : (Go.bits .and .u16 (rd m x) s == 0) = false := beq_eq_false_iff_ne.mpr c2
            have c2c : (Go.bits .and .u16 (rd m x) s != 0) = true := bne_iff_ne.mpr c2
            clear c1 c2
            go_wp2
            go_roundg (gk - 1)
            case measure => have := HK.out; omega
            case rel => exact ⟨x + 1, by first | rfl | rw [HX.out], by rw [HF.out], ⟨by have := HK.out; omega⟩, ⟨by repeat (first | (with_reducible exact HB.out) | apply pw_below_drewN | apply below_drew)⟩⟩
      · have c3b : decide ((x : Int) < 12) = false := decide_eq_false c3
        have hx : x = 12 := by have := HK.out; omega
        subst hx
        clear c3
        go_wp2
        go_ret
        exact ⟨by first | rfl | (simp; done), HB.out⟩
  · rw [if_neg hh] at h; cases h

/-! ### spec_l03Locked: function 73: this session's own text -/
/-- What can never be taken up of a set: round by round. -/
def lockB (m : List Int) : Nat → Int → Option Int
  | 0, _ => none
  | k + 1, s => if freeB m s 12 = 0 then some s else lockB m k (Go.bits .andNot .u16 s (freeB m s 12))
def spec_l03Locked.f (k : Nat) (m : List Int) (s : Int) : Option Int := if m.length = 12 then lockB m k s else none
theorem lockB_mono (m : List Int) : ∀ (k : Nat) (s : Int), LeO (lockB m k s) (lockB m (k + 1) s) := by
  intro k
  induction k with
  | zero => intro s; exact LeO.none _
  | succ k ih =>
    intro s
    rw [lockB]
    conv => rhs; rw [lockB]
    split
    · exact LeO.refl _
    · exact ih _
theorem spec_l03Locked.mono : ∀ m s k, LeO (spec_l03Locked.f k m s) (spec_l03Locked.f (k + 1) m s) := by
  intro m s k
  unfold spec_l03Locked.f
  split
  · exact lockB_mono m k s
  · exact LeO.none _
set_option maxHeartbeats 4000000 in
set_option maxRecDepth 100000 in
theorem spec_l03Locked.calls (k : Nat) (p : Nat) (m : List Int) (s r : Int) (w : World) (hb : w.heap[p]? = some (.cells (m.map (Value.int .u16)).toArray 59 (0, 0))) (h : spec_l03Locked.f k m s = some r) :
    Calls Try.prog 73 #[.pointer (some ⟨p, 0, none⟩), .int .u16 s] w fun e w' => e = .returned (.int .u16 r) ∧ Below w.heap.size w w' := by
  unfold spec_l03Locked.f at h
  by_cases hh : m.length = 12
  · rw [if_pos hh] at h
    have hfr : Aside0 (∀ W s, Below w.heap.size w W → Calls Try.prog 67 #[.pointer (some ⟨p, 0, none⟩), .int .u16 s] W fun e w' => e = .returned (.int .u16 (freeB m s 12)) ∧ Below W.heap.size W w') := ⟨fun W s hW => spec_l03Free.calls p m s _ W ((hW.block _ (blk_lt hb)).trans hb) (by unfold spec_l03Free.f; rw [if_pos hh])⟩
    have HB := Aside0.mk (Below.refl w.heap.size w)
    have H := Aside0.mk h
    clear hh hb h
    go_enter Try.func73, Try.ntmps73
    go_wp2
    go_loopg [1] k (fun gk v1 w' => ∃ x : Int, v1 = .int .u16 x ∧ Aside0 (lockB m gk x = some r) ∧ Aside0 (Below w.heap.size w w'))
    case atStart => exact ⟨s, rfl, H, HB⟩
    case round =>
      clear HB H
      obtain ⟨x, rfl, H, HB⟩ := hrel
      cases gk with
      | zero => exact absurd H.out (by simp [lockB])
      | succ gk =>
        have h := H.out
        clear H
        rw [lockB] at h
        obtain ⟨u, hu⟩ : ∃ u, u = freeB m x 12 := ⟨_, rfl⟩
        have hfx : Aside0 (∀ W, Below w.heap.size w W → Calls Try.prog 67 #[.pointer (some ⟨p, 0, none⟩), .int .u16 x] W fun e w' => e = .returned (.int .u16 u) ∧ Below W.heap.size W w') := ⟨fun W hW => by rw [hu]; exact hfr.out W x hW⟩
        rw [← hu] at h
        by_cases c1 : u = 0
        · rw [if_pos c1] at h
          obtain rfl := Option.some.inj h
          have c1b : (u == 0) = true := beq_iff_eq.mpr c1
          clear c1 hu h
          go_wp2_with (first | (go_at_call 67; refine (hfx.out _ HB.out).mono ?_; rintro e w2 ⟨rfl, hb2⟩; have HB2 := Aside0.mk (HB.out.trans (hb2.mono HB.out.size)); clear hb2))
          go_ret
          exact ⟨by first | rfl | (simp; done), HB2.out⟩
        · rw [if_neg c1] at h
          have c1b : (u == 0) = false := beq_eq_false_iff_ne.mpr c1
          have H := Aside0.mk h
          clear c1 hu h
          go_wp2_with (first | (go_at_call 67; refine (hfx.out _ HB.out).mono ?_; rintro e w2 ⟨rfl, hb2⟩; have HB2 := Aside0.mk (HB.out.trans (hb2.mono HB.out.size)); clear hb2))
          go_roundg gk
          case measure => omega
          case rel => exact ⟨_, rfl, H, HB2⟩
  · rw [if_neg hh] at h; cases h

/-! ### spec_GreedySlipped: function 44: this session's own text -/
/-- An empty row that a literal has made. -/
theorem empty_lit {W : World} {base : Nat} {e : TypeId} (h : base ≤ W.heap.size) : Kd.R (Kd.int .i64) e (W.alloc (.cells #[] e)) base (fun _ => True) (.slice (some ⟨W.heap.size, 0, none⟩) 0 0) [] :=
  Kd.R_of_own (enc := Value.int .i64) (h1 := fun _ => rfl) (xs := []) ⟨by simp [encs], .inr ⟨W.heap.size, 0, #[], rfl, h, blk_new W _, Nat.le_refl _, by unfold maxLen; omega, by simp, by simp [encs]⟩⟩ (fun _ _ => trivial)

theorem maskL_length (l : List S64) : (maskL l).length = 12 := by
  have key : ∀ (l : List S64) (m : List Int), (l.foldl orS m).length = m.length := by
    intro l
    induction l with
    | nil => intro m; rfl
    | cons y l ih => intro m; rw [List.foldl_cons, ih, orS_length]
  exact key _ _
theorem maskL_form (l : List S64) : ∃ m0 m1 m2 m3 m4 m5 m6 m7 m8 m9 m10 m11 : Int, maskL l = [m0, m1, m2, m3, m4, m5, m6, m7, m8, m9, m10, m11] := by
  have h := maskL_length l
  generalize maskL l = m at h
  match m, h with
  | [m0, m1, m2, m3, m4, m5, m6, m7, m8, m9, m10, m11], _ => exact ⟨m0, m1, m2, m3, m4, m5, m6, m7, m8, m9, m10, m11, rfl⟩

/-- Does a cover lie over one of a set, by a chain? -/
def hitB (u c : Int) (x : S64) : Bool := x.f0 == c && Go.bits .and .u16 (u / 2 ^ x.f1.toNat) 1 == 1
def cntM (l : List S64) (u c : Int) : Int := ((l.filter (hitB u c)).length : Int)
/-- The first chain of a set with the most. -/
def bestM (l : List S64) (u : Int) : Nat → Int × Int
  | 0 => (-1, 0)
  | x + 1 => if Go.bits .and .u16 (u / 2 ^ x) 1 = 0 then bestM l u x else if (bestM l u x).1 < 0 ∨ cntM l u (x : Int) > (bestM l u x).2 then ((x : Int), cntM l u (x : Int)) else bestM l u x
def greedM (l : List S64) (n : Nat) : Nat → Int → List Int → Option (List Int × Int)
  | 0, _, _ => none
  | k + 1, s, out => (spec_l03Locked.f 20 (maskL l) s).bind fun u => if u = 0 then some (out, 0) else if 0 ≤ (bestM l u n).1 ∧ (bestM l u n).1 < 12 ∧ out.length < 1048576 then greedM l n k (Go.bits .andNot .u16 s (IntKind.u16.wrap (2 ^ (bestM l u n).1.toNat))) (out ++ [(bestM l u n).1]) else none
theorem greedM_mono (l : List S64) (n : Nat) : ∀ (k : Nat) (s : Int) (o : List Int), LeO (greedM l n k s o) (greedM l n (k + 1) s o) := by
  intro k
  induction k with
  | zero => intro s o; exact LeO.none _
  | succ k ih =>
    intro s o
    rw [greedM]
    conv => rhs; rw [greedM]
    refine LeO.bind (LeO.refl _) (fun u => ?_)
    split
    · exact LeO.refl _
    · split
      · exact ih _ _
      · exact LeO.none _
def spec_GreedySlipped.f (k : Nat) (a0 : Int) (l1 : List S64) : Option (List Int × Int) := (spec_l03Asked.f k a0 l1 true).bind fun c => if c = 0 then (if (l1.length ≤ 1048576 ∧ ∀ x ∈ l1, (0 ≤ x.f0 ∧ x.f0 < 12) ∧ (0 ≤ x.f1 ∧ x.f1 < 12)) ∧ 0 ≤ a0 ∧ a0 ≤ 12 then (spec_l03All.f a0).bind fun z => greedM l1 a0.toNat k z [] else none) else some ([], c)
theorem spec_GreedySlipped.mono : ∀ a0 a1 k, LeO (spec_GreedySlipped.f k a0 a1) (spec_GreedySlipped.f (k + 1) a0 a1) := by
  intro a0 a1 k
  unfold spec_GreedySlipped.f
  repeat' first
      | (with_reducible exact spec_l03Asked.mono _ _ _ _)
      | (with_reducible exact greedM_mono _ _ _ _ _)
      | (with_reducible exact LeO.refl _)
      | (with_reducible exact LeO.none _)
      | (with_reducible refine LeO.ite ?_ ?_)
      | (with_reducible refine LeO.bind ?_ (fun _ => ?_))
      | exact spec_l03Asked.mono _ _ _ _
      | exact greedM_mono _ _ _ _ _
      | exact LeO.none _
      | refine LeO.ite ?_ ?_
      | refine LeO.bind ?_ (fun _ => ?_)
theorem cntM_step (l : List S64) (u c : Int) {x : Nat} (hx : x < l.length) : cntM (l.take (x + 1)) u c = if hitB u c l[x] = true then cntM (l.take x) u c + 1 else cntM (l.take x) u c := by
  unfold cntM
  rw [List.take_succ_eq_append_getElem hx, List.filter_append, List.length_append, List.filter_cons]
  split <;> simp
theorem cntM_le (l : List S64) (u c : Int) (x : Nat) : 0 ≤ cntM (l.take x) u c ∧ cntM (l.take x) u c ≤ x := by
  unfold cntM
  have := List.length_filter_le (hitB u c) (l.take x)
  rw [List.length_take] at this
  omega
set_option maxHeartbeats 8000000 in
set_option maxRecDepth 100000 in
theorem spec_GreedySlipped.calls (k : Nat) (a0 : Int) (A1 : Option Addr) (c1 : Nat) (l1 : List (S64)) (r1 : List Int) (r2 : Int) (w : World) (hr1 : Kd.C k64 w A1 l1.length l1) (hc1 : l1.length ≤ c1) (h : spec_GreedySlipped.f k a0 l1 = some (r1, r2)) :
    Calls Try.prog 44 #[.int .i64 a0, .slice A1 l1.length c1] w fun e w' => ∃ v0_ : Value, e = .returned (.tuple #[v0_, .int .i64 r2]) ∧ Kd.R (Kd.int .i64) 2 w' w.heap.size (fun _ => True) v0_ r1 ∧ Below w.heap.size w w' := by
  unfold spec_GreedySlipped.f at h
  replace h := Option.bind_eq_some_iff.mp h
  obtain ⟨c, hc, h⟩ := h
  have has : Aside0 (∀ W, Below w.heap.size w W → Calls Try.prog 51 #[.int .i64 a0, .slice A1 l1.length c1, .bool true] W fun e w' => e = .returned (.int .i64 c) ∧ Below W.heap.size W w') := ⟨fun W hw => spec_l03Asked.calls k a0 A1 c1 l1 true c W (Kd.C_below hr1 hw) hc1 hc⟩
  by_cases hc0 : c = 0
  · rw [if_pos hc0] at h
    by_cases hg : (l1.length ≤ 1048576 ∧ ∀ x ∈ l1, (0 ≤ x.f0 ∧ x.f0 < 12) ∧ (0 ≤ x.f1 ∧ x.f1 < 12)) ∧ 0 ≤ a0 ∧ a0 ≤ 12
    · rw [if_pos hg] at h
      replace h := Option.bind_eq_some_iff.mp h
      obtain ⟨z, hz, h⟩ := h
      obtain ⟨n, rfl⟩ : ∃ n : Nat, a0 = (n : Int) := ⟨a0.toNat, by omega⟩
      simp only [Int.toNat_natCast] at h
      have H := Aside0.mk h
      obtain ⟨m0, m1, m2, m3, m4, m5, m6, m7, m8, m9, m10, m11, hml⟩ := maskL_form l1
      have hov : Aside0 (∀ W, Below w.heap.size w W → Calls Try.prog 53 #[.slice A1 l1.length c1] W fun e w' => e = .returned (.agg #[.int .u16 m0, .int .u16 m1, .int .u16 m2, .int .u16 m3, .int .u16 m4, .int .u16 m5, .int .u16 m6, .int .u16 m7, .int .u16 m8, .int .u16 m9, .int .u16 m10, .int .u16 m11]) ∧ Below W.heap.size W w') := ⟨fun W hw => by
        have := spec_l03Over.calls A1 c1 l1 W (Kd.C_below hr1 hw) hc1 (by unfold spec_l03Over.f; rw [if_pos hg.1])
        rw [hml] at this
        exact this⟩
      have hal : Aside0 (∀ W, Calls Try.prog 68 #[.int .i64 n] W fun e w' => e = .returned (.int .u16 z) ∧ Drawn0 W w') := ⟨fun W => spec_l03All.calls n z W hz⟩
      have hfr : Aside0 (∀ W p s u, W.heap[p]? = some (.cells #[.int .u16 m0, .int .u16 m1, .int .u16 m2, .int .u16 m3, .int .u16 m4, .int .u16 m5, .int .u16 m6, .int .u16 m7, .int .u16 m8, .int .u16 m9, .int .u16 m10, .int .u16 m11] 59 (0, 0)) → spec_l03Locked.f 20 (maskL l1) s = some u → Calls Try.prog 73 #[.pointer (some ⟨p, 0, none⟩), .int .u16 s] W fun e w' => e = .returned (.int .u16 u) ∧ Below W.heap.size W w') := ⟨fun W p s u hb hu => spec_l03Locked.calls 20 p (maskL l1) s u W (by rw [hml]; exact hb) hu⟩
      have HR1 := Aside0.mk hr1
      have HG := Aside0.mk hg
      subst hc0
      clear hr1 hc1 hc hml hg hz h
      go_enter Try.func44, Try.ntmps44
      go_wp2_with (first | ((with_reducible refine gate_dst (N := 16) rfl ?_); refine Kd.R_lit (Kd.int .i64) (w0 := w) w.heap.size 2 ?hg (N := 16) ?hd (xs := ([] : List Int)) (inner := []) (ok := fun _ => True) (okp := fun _ => True) ?hr ?hp (fun _ hk => hk) trivial (Below.refl _ _) (Nat.le_refl _) (by simp) ?_; (case hd => rfl); (case hg => rfl); (case hr => first | (go_simp; done) | (go_simp; rfl)); (case hp => exact (Reps.none _ _)); intro v1 w1 ho1 hb1 hg_ hnew_; clear hg_ hnew_; have HO1 := Aside0.mk ho1; have HB := Aside0.mk hb1; clear ho1 hb1) | (go_at_call 51; refine (has.out _ HB.out).mono ?_; rintro e w2 ⟨rfl, hb2⟩; have HB2 := Aside0.mk (HB.out.trans (hb2.mono HB.out.size)); have HO2 := Aside0.mk (Kd.R_below HO1.out hb2); clear hb2) | (go_at_call 53; refine (hov.out _ HB2.out).mono ?_; rintro e w3 ⟨rfl, hb3⟩; have HB3 := Aside0.mk (HB2.out.trans (hb3.mono HB2.out.size)); have HO3 := Aside0.mk (Kd.R_below (Kd.R_below HO2.out hb3) (below_alloc (Below.refl _ _) (.cells #[.int .u16 m0, .int .u16 m1, .int .u16 m2, .int .u16 m3, .int .u16 m4, .int .u16 m5, .int .u16 m6, .int .u16 m7, .int .u16 m8, .int .u16 m9, .int .u16 m10, .int .u16 m11] 59))); have HA3 := Aside0.mk (below_alloc HB3.out (.cells #[.int .u16 m0, .int .u16 m1, .int .u16 m2, .int .u16 m3, .int .u16 m4, .int .u16 m5, .int .u16 m6, .int .u16 m7, .int .u16 m8, .int .u16 m9, .int .u16 m10, .int .u16 m11] 59)); have HC3 := Aside0.mk (blk_new w3 (.cells #[.int .u16 m0, .int .u16 m1, .int .u16 m2, .int .u16 m3, .int .u16 m4, .int .u16 m5, .int .u16 m6, .int .u16 m7, .int .u16 m8, .int .u16 m9, .int .u16 m10, .int .u16 m11] 59)); clear hb3) | (go_at_call 68; refine (hal.out _).mono ?_; rintro e w4 ⟨rfl, hd⟩; have HB4 := Aside0.mk (HA3.out.trans (hd.below.mono HA3.out.size)); have HO4 := Aside0.mk (Kd.R_below HO3.out hd.below); have HC4 := Aside0.mk ((hd.below.block _ (blk_lt HC3.out)).trans HC3.out); clear hd))
      clear HO1 HO2 HO3 HB HB2 HB3 HA3 HC3 has hov hal
      generalize w3.heap.size = p at *
      go_loopg [6, 9] k (fun gk v6 v9 w' => ∃ (s : Int) (o : List Int), v9 = .int .u16 s ∧ Aside0 (greedM l1 n gk s o = some (r1, r2)) ∧ Aside0 (Kd.R (Kd.int .i64) 2 w' w.heap.size (fun _ => True) v6 o) ∧ Aside0 (w'.heap[p]? = some (.cells #[.int .u16 m0, .int .u16 m1, .int .u16 m2, .int .u16 m3, .int .u16 m4, .int .u16 m5, .int .u16 m6, .int .u16 m7, .int .u16 m8, .int .u16 m9, .int .u16 m10, .int .u16 m11] 59 (0, 0))) ∧ Aside0 (Below w.heap.size w w'))
      case atStart => exact ⟨z, [], rfl, H, HO4, HC4, HB4⟩
      case round =>
        clear H HC4 HB4 HO4
        obtain ⟨s, o, rfl, H, HO, HC, HB⟩ := hrel
        cases gk with
        | zero => exact absurd H.out (by simp [greedM])
        | succ gk =>
          have h := H.out
          clear H
          rw [greedM] at h
          replace h := Option.bind_eq_some_iff.mp h
          obtain ⟨u, hu, h⟩ := h
          have HU := Aside0.mk hu
          clear hu
          by_cases ce : u = 0
          · rw [if_pos ce] at h
            simp only [Option.some.injEq, Prod.mk.injEq] at h
            obtain ⟨rfl, rfl⟩ := h
            have c1b : (u == 0) = true := beq_iff_eq.mpr ce
            clear ce
            go_wp2_with (first | (go_at_call 73; refine (hfr.out _ _ _ _ HC.out HU.out).mono ?_; rintro e w5 ⟨rfl, hb5⟩; have HB5 := Aside0.mk (HB.out.trans (hb5.mono HB.out.size)); have HO5 := Aside0.mk (Kd.R_below HO.out hb5); clear hb5))
            exact bodyPost_ret (v := .tuple #[u6, .int .i64 0]) (by simp [results, Try.results44, go_sem]) rfl ⟨_, rfl, HO5.out, HB5.out⟩
          · rw [if_neg ce] at h
            have c1b : (u == 0) = false := beq_eq_false_iff_ne.mpr ce
            clear ce
            by_cases hb3 : 0 ≤ (bestM l1 u n).1 ∧ (bestM l1 u n).1 < 12 ∧ o.length < 1048576
            · rw [if_pos hb3] at h
              have H := Aside0.mk h
              have HL := Aside0.mk hb3
              clear h hb3
              obtain ⟨g1, rfl⟩ : ∃ g1, g1 = gk := ⟨_, rfl⟩
              go_wp2_with (first | (go_at_call 73; refine (hfr.out _ _ _ _ HC.out HU.out).mono ?_; rintro e w5 ⟨rfl, hb5⟩; have HB5 := Aside0.mk (HB.out.trans (hb5.mono HB.out.size)); have HO5 := Aside0.mk (Kd.R_below HO.out hb5); have HC5 := Aside0.mk ((hb5.block _ (blk_lt HC.out)).trans HC.out); clear hb5))
              go_loopg [11, 12, 13, 14, 15] n (fun gk v11 v12 v13 v14 v15 w' => ∃ x : Nat, v13 = .int .i64 x ∧ v11 = .int .i64 (bestM l1 u x).1 ∧ v12 = .int .i64 (bestM l1 u x).2 ∧ Aside0 (x + gk = n) ∧ Aside0 (Below w5.heap.size w5 w'))
              case atStart => exact ⟨0, rfl, rfl, rfl, ⟨by omega⟩, ⟨Below.refl _ _⟩⟩
              case round =>
                obtain ⟨x, rfl, rfl, rfl, HK, HBm⟩ := hrel
                by_cases c3 : x < n
                · have hx12 : x < 12 := by have := HG.out.2.2; omega
                  have hx12i : (x : Int) < 12 := by omega
                  have c3b : decide ((x : Int) < (n : Int)) = true := decide_eq_true (by omega)
                  have c3n : decide (x < n) = true := decide_eq_true c3
                  have p0b : decide (0 ≤ (x : Int)) = true := decide_eq_true (by omega)
                  have HX : Aside0 (wrap64 ((x : Int) + 1) = ((x + 1 : Nat) : Int)) := ⟨by unfold wrap64; omega⟩
                  obtain ⟨b, hbb⟩ : ∃ b, b = (bestM l1 u x).1 := ⟨_, rfl⟩
                  obtain ⟨m, hmm⟩ : ∃ m, m = (bestM l1 u x).2 := ⟨_, rfl⟩
                  have HBM := Aside0.mk (And.intro hbb hmm)
                  rw [← hbb, ← hmm]
                  clear hbb hmm
                  by_cases ct : Go.bits .and .u16 (u / 2 ^ x) 1 = 0
                  · have HE : Aside0 (bestM l1 u (x + 1) = bestM l1 u x) := ⟨by rw [bestM, if_pos ct]⟩
                    have ctb : (Go.bits .and .u16 (u / 2 ^ x) 1 == 0) = true := beq_iff_eq.mpr ct
                    clear ct
                    go_wp2
                    go_roundg (gk - 1)
                    case measure => have := HK.out; omega
                    case rel => exact ⟨x + 1, by first | rfl | rw [HX.out], by rw [HE.out, HBM.out.1], by rw [HE.out, HBM.out.2], ⟨by have := HK.out; omega⟩, HBm⟩
                  · have ctb : (Go.bits .and .u16 (u / 2 ^ x) 1 == 0) = false := beq_eq_false_iff_ne.mpr ct
                    have HE : Aside0 (bestM l1 u (x + 1) = if b < 0 ∨ cntM l1 u (x : Int) > m then ((x : Int), cntM l1 u (x : Int)) else bestM l1 u x) := ⟨by rw [bestM, if_neg ct, HBM.out.1, HBM.out.2]⟩
                    clear ct
                    obtain ⟨g2, rfl⟩ : ∃ g2, g2 = gk := ⟨_, rfl⟩
                    go_wp2
                    go_loopg [14, 15] l1.length (fun gk v14 v15 w' => ∃ y : Nat, v15 = .int .i64 y ∧ v14 = .int .i64 (cntM (l1.take y) u (x : Int)) ∧ Aside0 (y + gk = l1.length) ∧ Aside0 (Below w5.heap.size w5 w'))
                    case atStart => exact ⟨0, rfl, rfl, ⟨by omega⟩, HBm⟩
                    case round =>
                      clear HBm
                      obtain ⟨y, rfl, rfl, HK2, HBm⟩ := hrel
                      have hcl := cntM_le l1 u (x : Int) y
                      have hcs := fun h => cntM_step l1 u (x : Int) (x := y) h
                      obtain ⟨q, hq⟩ : ∃ q, q = cntM (l1.take y) u (x : Int) := ⟨_, rfl⟩
                      rw [← hq] at hcl hcs
                      rw [← hq]
                      by_cases c4 : y < l1.length
                      · have hcs := hcs c4
                        obtain ⟨ad1, e1, hx1_0, hx1_1⟩ := at_T64 HR1.out (y : Int) (by omega) (by omega)
                        cases e1
                        have HBW := Aside0.mk (HB5.out.trans (HBm.out.mono HB5.out.size))
                        replace hx1_0 := (HBW.out.cell (World.block_lt_of_cell? w _ hx1_0)).trans hx1_0
                        replace hx1_1 := (HBW.out.cell (World.block_lt_of_cell? w _ hx1_1)).trans hx1_1
                        simp only [Int.toNat_natCast] at hx1_0 hx1_1
                        have hrd : rd_T64 l1 (y : Int) = l1[y] := by rw [rd_T64, Int.toNat_natCast, List.getD_eq_getElem?_getD, List.getElem?_eq_getElem c4]; rfl
                        have hxin := HG.out.1.2 l1[y] (List.getElem_mem c4)
                        obtain ⟨v, hv⟩ : ∃ v : Nat, l1[y].f1 = (v : Int) := ⟨l1[y].f1.toNat, by omega⟩
                        obtain ⟨fo, hf⟩ : ∃ fo, l1[y].f0 = fo := ⟨_, rfl⟩
                        have hh : hitB u (x : Int) l1[y] = (fo == (x : Int) && Go.bits .and .u16 (u / 2 ^ v) 1 == 1) := by unfold hitB; rw [hf, hv, Int.toNat_natCast]
                        rw [hh] at hcs
                        rw [hrd, hf] at hx1_0
                        rw [hrd, hv] at hx1_1
                        rw [hf, hv] at hxin
                        have hf0 := hxin.1.1
                        have hf1 := hxin.1.2
                        have hv1 := hxin.2.2
                        have hvn : v < 12 := by omega
                        have HY : Aside0 (wrap64 ((y : Int) + 1) = ((y + 1 : Nat) : Int)) := ⟨by have := HG.out.1.1; unfold wrap64; omega⟩
                        have HW : Aside0 (wrap64 (q + 1) = q + 1) := ⟨by have := HG.out.1.1; unfold wrap64; omega⟩
                        have c4b : decide ((y : Int) < (l1.length : Int)) = true := decide_eq_true (by omega)
                        have c4n : decide (y < l1.length) = true := decide_eq_true c4
                        have p1b : decide (0 ≤ (y : Int)) = true := decide_eq_true (by omega)
                        have HL4 := Aside0.mk c4
                        clear hh hrd hv hf hq hxin
                        by_cases e0 : fo = (x : Int)
                        · have e0b : (fo == (x : Int)) = true := beq_iff_eq.mpr e0
                          by_cases e1 : Go.bits .and .u16 (u / 2 ^ v) 1 = 1
                          · have e1b : (Go.bits .and .u16 (u / 2 ^ v) 1 == 1) = true := beq_iff_eq.mpr e1
                            rw [e0b, e1b] at hcs
                            have HQa : Aside0 (cntM (l1.take (y + 1)) u (x : Int) = q + 1) := ⟨by rw [hcs]; rfl⟩
                            have HQb : Aside0 (cntM (l1.take (y + 1)) u (x : Int) = wrap64 (q + 1)) := ⟨by rw [HQa.out, HW.out]⟩
                            clear hcs e0 e1
                            go_wp2
                            go_roundg (gk - 1)
                            case measure => have := HK2.out; have := HL4.out; omega
                            case rel => exact ⟨y + 1, by first | rfl | rw [HY.out], by first | exact congrArg (Value.int .i64) HQa.out.symm | exact congrArg (Value.int .i64) HQb.out.symm, ⟨by have := HK2.out; have := HL4.out; omega⟩, HBm⟩
                          · have e1b : (Go.bits .and .u16 (u / 2 ^ v) 1 == 1) = false := beq_eq_false_iff_ne.mpr e1
                            rw [e0b, e1b] at hcs
                            have HQa : Aside0 (cntM (l1.take (y + 1)) u (x : Int) = q) := ⟨by rw [hcs]; rfl⟩
                            clear hcs e0 e1
                            go_wp2
                            go_roundg (gk - 1)
                            case measure => have := HK2.out; have := HL4.out; omega
                            case rel => exact ⟨y + 1, by first | rfl | rw [HY.out], congrArg (Value.int .i64) HQa.out.symm, ⟨by have := HK2.out; have := HL4.out; omega⟩, HBm⟩
                        · have e0b : (fo == (x : Int)) = false := beq_eq_false_iff_ne.mpr e0
                          rw [e0b] at hcs
                          have HQa : Aside0 (cntM (l1.take (y + 1)) u (x : Int) = q) := ⟨by rw [hcs]; rfl⟩
                          clear hcs e0
                          go_wp2
                          go_roundg (gk - 1)
                          case measure => have := HK2.out; have := HL4.out; omega
                          case rel => exact ⟨y + 1, by first | rfl | rw [HY.out], congrArg (Value.int .i64) HQa.out.symm, ⟨by have := HK2.out; have := HL4.out; omega⟩, HBm⟩
                      · have hy : l1.take y = l1 := List.take_of_length_le (by omega)
                        rw [hy] at hq
                        have c4b : decide ((y : Int) < (l1.length : Int)) = false := decide_eq_false (by omega)
                        have c4n : decide (y < l1.length) = false := decide_eq_false c4
                        have HQ := Aside0.mk hq
                        clear hq hcl hcs hy
                        by_cases e1 : b < 0
                        · have HE2 : Aside0 (bestM l1 u (x + 1) = ((x : Int), q)) := ⟨by rw [HE.out, ← HQ.out, if_pos (.inl e1)]⟩
                          have e1b : decide (b < 0) = true := decide_eq_true e1
                          go_wp2
                          go_roundg (g2 - 1)
                          case measure => have := HK.out; omega
                          case rel => exact ⟨x + 1, by first | rfl | rw [HX.out], by rw [HE2.out], by rw [HE2.out], ⟨by have := HK.out; omega⟩, HBm⟩
                        · have e1b : decide (b < 0) = false := decide_eq_false e1
                          by_cases e2 : m < q
                          · have HE2 : Aside0 (bestM l1 u (x + 1) = ((x : Int), q)) := ⟨by rw [HE.out, ← HQ.out, if_pos (.inr e2)]⟩
                            have e2b : decide (m < q) = true := decide_eq_true e2
                            go_wp2
                            go_roundg (g2 - 1)
                            case measure => have := HK.out; omega
                            case rel => exact ⟨x + 1, by first | rfl | rw [HX.out], by rw [HE2.out], by rw [HE2.out], ⟨by have := HK.out; omega⟩, HBm⟩
                          · have HE2 : Aside0 (bestM l1 u (x + 1) = bestM l1 u x) := ⟨by rw [HE.out, ← HQ.out, if_neg (fun g => by rcases g with g | g; exact e1 g; exact e2 g)]⟩
                            have e2b : decide (m < q) = false := decide_eq_false e2
                            go_wp2
                            go_roundg (g2 - 1)
                            case measure => have := HK.out; omega
                            case rel => exact ⟨x + 1, by first | rfl | rw [HX.out], by rw [HE2.out, HBM.out.1], by rw [HE2.out, HBM.out.2], ⟨by have := HK.out; omega⟩, HBm⟩
                · have hxn : x = n := by have := HK.out; omega
                  subst hxn
                  have c3b : decide ((x : Int) < (x : Int)) = false := decide_eq_false (by omega)
                  have c3n : decide (x < x) = false := decide_eq_false c3
                  clear c3
                  obtain ⟨v, hv⟩ : ∃ v : Nat, (bestM l1 u x).1 = (v : Int) := ⟨(bestM l1 u x).1.toNat, by have := HL.out.1; omega⟩
                  have hv12 : (v : Int) < 12 := by have := HL.out.2.1; omega
                  have hv12n : v < 12 := by omega
                  rw [hv] at H
                  simp only [Int.toNat_natCast] at H
                  rw [hv]
                  clear hv
                  have HBW := Aside0.mk (HB5.out.trans (HBm.out.mono HB5.out.size))
                  have HO6 := Aside0.mk (Kd.R_below HO5.out HBm.out)
                  have HC6 := Aside0.mk ((HBm.out.block _ (blk_lt HC5.out)).trans HC5.out)
                  go_wp2_with (first | ((with_reducible refine gate_builtin (b := .append) (xs := #[.tmp 81, .tmp 83]) rfl ?_); at_builtin; refine Kd.R_append (Kd.int .i64) (w0 := wr) w.heap.size rfl (.tmp 81) (.tmp 83) 24 2 (.int .i64 0) 8 rfl Try.underlying24 info2 rfl (by decide) (by omega) u6 o (v : Int) [.int .i64 (v : Int)] (fun _ => True) (fun _ => False) rfl rfl ?aP (fun _ hk => hk.elim) ?aF ?aO ?aB ?aS ?aL ?_; (case aP => exact rfl); (case aB => exact Below.refl _ _); (case aF => exact (fun _ _ => trivial)); (case aO => exact HO6.out); (case aS => exact HBW.out.size); (case aL => have := HL.out.2.2; omega); intro v3 w7 ho hb7 hg hat; have HO7 := Aside0.mk ho; have HC7 := Aside0.mk ((hg.block _ (blk_lt HC6.out) (Kd.R_ne HO6.out HC6.out (by decide))).trans HC6.out); have HB7 := Aside0.mk (HBW.out.trans hb7); clear ho hb7 hg hat))
                  go_roundg g1
                  case measure => omega
                  case rel => exact ⟨_, _, rfl, H, HO7, HC7, HB7⟩
            · rw [if_neg hb3] at h; cases h
    · rw [if_neg hg] at h; cases h
  · rw [if_neg hc0] at h
    simp only [Option.some.injEq, Prod.mk.injEq] at h
    obtain ⟨rfl, rfl⟩ := h
    have hcb : (c == 0) = false := beq_eq_false_iff_ne.mpr hc0
    have hcb' : (c != 0) = true := bne_iff_ne.mpr hc0
    clear hr1 hc1 hc hc0
    go_enter Try.func44, Try.ntmps44
    go_wp2_with (first | ((with_reducible refine gate_dst (N := 16) rfl ?_); refine Kd.R_lit (Kd.int .i64) (w0 := w) w.heap.size 2 ?hg (N := 16) ?hd (xs := ([] : List Int)) (inner := []) (ok := fun _ => True) (okp := fun _ => True) ?hr ?hp (fun _ hk => hk) trivial (Below.refl _ _) (Nat.le_refl _) (by simp) ?_; (case hd => rfl); (case hg => rfl); (case hr => first | (go_simp; done) | (go_simp; rfl)); (case hp => exact (Reps.none _ _)); intro v1 w1 ho1 hb1 hg_ hnew_; clear hg_ hnew_; have HO1 := Aside0.mk ho1; have HB := Aside0.mk hb1; clear ho1 hb1) | (go_at_call 51; refine (has.out _ HB.out).mono ?_; rintro e w2 ⟨rfl, hb2⟩; have HB2 := Aside0.mk (HB.out.trans (hb2.mono HB.out.size)); have HO2 := Aside0.mk (Kd.R_below HO1.out hb2); clear hb2))
    exact bodyPost_ret (v := .tuple #[v1, .int .i64 c]) (by simp [results, Try.results44, go_sem]) rfl ⟨_, rfl, HO2.out, HB2.out⟩

/-! ### impl_isChain: function 86 -/
def impl_isChain.f (a0 : Int) (a1 : Int) : Option (Bool) := if a1 ≥ 0 then (some (decide (a1 < a0))) else (some false)
set_option maxHeartbeats 8000000 in
set_option maxRecDepth 100000 in
theorem impl_isChain.calls (a0 : Int) (a1 : Int) (r : Bool) (w : World) (h : impl_isChain.f a0 a1 = some r) :
    Calls Try.prog 86 #[.int .i64 a0, .int .i64 a1] w fun e w' => e = .returned (.bool r) ∧ Drawn0 w w' := by
  have H : (if a1 ≥ 0 then (some (decide (a1 < a0))) else (some false)) = some r := h
  clear h
  by_cases c3 : a1 ≥ 0
  · rw [if_pos c3] at H
    have c3b0 : decide (0 ≤ a1) = true := decide_eq_true c3
    clear c3
    obtain rfl := Option.some.inj H
    go_enter Try.func86, Try.ntmps86
    go_wp2
    go_ret
    exact ⟨by first | rfl | (simp; done) | (simp [*]; done), by repeat (first | exact Drawn0.refl _ | apply Drawn0.step)⟩
  · rw [if_neg c3] at H
    have c3b0 : decide (0 ≤ a1) = false := decide_eq_false c3
    clear c3
    obtain rfl := Option.some.inj H
    go_enter Try.func86, Try.ntmps86
    go_wp2
    go_ret
    exact ⟨by first | rfl | (simp; done) | (simp [*]; done), by repeat (first | exact Drawn0.refl _ | apply Drawn0.step)⟩

/-! ### impl_Cover_116: function 116 -/
def impl_Cover_116.l0 : Nat → List (S64) → Int → Int → Int → Int → Option (Int)
  | 0, _, _, _, _, _ => none
  | k + 1, x0, x7, x8, x130000, x130001 => if x8 < x7 then (if 0 ≤ x8 then (if x8 < (x0.length : Int) then (if (x130000 == ((rd_T64 x0 x8).f0) && (x130001 == ((rd_T64 x0 x8).f1))) = true then (some x8) else (impl_Cover_116.l0 k x0 x7 (wrap64 (x8 + 1)) x130000 x130001)) else (none)) else (none)) else (some (-1))
def impl_Cover_116.f (k : Nat) (l0 : List (S64)) (a1_0 : Int) (a1_1 : Int) : Option (Int) := impl_Cover_116.l0 k l0 (l0.length : Int) 0 a1_0 a1_1
theorem impl_Cover_116.mono_l : ∀ k, (∀ y0 y1 y2 y3 y4, LeO (impl_Cover_116.l0 k y0 y1 y2 y3 y4) (impl_Cover_116.l0 (k + 1) y0 y1 y2 y3 y4))
  | 0 => fun _ _ _ _ _ r h => by simp [impl_Cover_116.l0] at h
  | k + 1 => by
    have ih0 := impl_Cover_116.mono_l k
    · intro y0 y1 y2 y3 y4
      unfold impl_Cover_116.l0
      repeat' first
      | (with_reducible exact ih0 _ _ _ _ _)
      | (with_reducible exact LeO.refl _)
      | (with_reducible exact LeO.none _)
      | (with_reducible refine LeO.ite ?_ ?_)
      | (with_reducible refine LeO.bind ?_ (fun _ => ?_))
      | exact ih0 _ _ _ _ _
      | exact LeO.none _
      | refine LeO.ite ?_ ?_
      | refine LeO.bind ?_ (fun _ => ?_)
theorem impl_Cover_116.mono : ∀ a0 a1 a2 k, LeO (impl_Cover_116.f k a0 a1 a2) (impl_Cover_116.f (k + 1) a0 a1 a2) := by
  intro a0 a1 a2 k
  have ih0 := impl_Cover_116.mono_l k
  unfold impl_Cover_116.f
  repeat' first
      | (with_reducible exact ih0 _ _ _ _ _)
      | (with_reducible exact LeO.refl _)
      | (with_reducible exact LeO.none _)
      | (with_reducible refine LeO.ite ?_ ?_)
      | (with_reducible refine LeO.bind ?_ (fun _ => ?_))
      | exact ih0 _ _ _ _ _
      | exact LeO.none _
      | refine LeO.ite ?_ ?_
      | refine LeO.bind ?_ (fun _ => ?_)
set_option maxHeartbeats 8000000 in
set_option maxRecDepth 100000 in
theorem impl_Cover_116.calls (k : Nat) (A0 : Option Addr) (c0 : Nat) (l0 : List (S64)) (a1_0 : Int) (a1_1 : Int) (r : Int) (w : World) (hr0 : Kd.C k64 w A0 l0.length l0) (hc0 : l0.length ≤ c0) (h : impl_Cover_116.f k l0 a1_0 a1_1 = some r) :
    Calls Try.prog 116 #[.slice A0 l0.length c0, .agg #[.int .i8 a1_0, .int .i8 a1_1]] w fun e w' => e = .returned (.int .i64 r) ∧ Below w.heap.size w w' := by
  have hu64 := Try.underlying64
  have HR0 := Aside0.mk hr0
  have HC0 := Aside0.mk hc0
  clear hr0 hc0
  have HB := Aside0.mk (Below.refl w.heap.size w)
  have H : (impl_Cover_116.l0 k l0 (l0.length : Int) 0 a1_0 a1_1) = some r := h
  clear h
  have H' := Aside0.mk H
  clear H
  go_enter Try.func116, Try.ntmps116
  go_wp2_with (first | ((with_reducible refine gate_dst (N := 3) rfl ?_); refine box_event ?hg (N := 3) ?hd (cs := #[.int .i8 a1_0, .int .i8 a1_1]) (t := 64) ?hr ?_; (case hd => rfl); (case hg => rfl); (case hr => first | (go_simp; done) | (go_simp; rfl)); intro gb129 hg w3 hbox hb; have n0_ := Aside0.mk (below_step (by repeat (first | (with_reducible first | exact HB.out | apply below_alloc | apply pw_below_drewN | apply below_drew1) | exact HB.out)) hb); have n1_ := Aside0.mk (hbox); have n2_ := Aside0.mk ((by rw [hg]; exact (below_size (by repeat (first | (with_reducible first | exact HB.out | apply below_alloc | apply pw_below_drewN | apply below_drew1) | exact HB.out))) : w.heap.size ≤ gb129)); have n3_ := Aside0.mk ((by rw [hg]; exact (below_size (by repeat (first | (with_reducible first | exact HB.out | apply below_alloc | apply pw_below_drewN | apply below_drew1) | exact HB.out))) : w.heap.size ≤ gb129)); clear HB; have HB := n0_; have BK129 := n1_; have GW129 := n2_; have GE129 := n3_; clear n0_ n1_ n2_ n3_; clear hb hbox hg))
  repeat (go_quiet (first | ((with_reducible refine gate_dst (N := 3) rfl ?_); refine box_event ?hg (N := 3) ?hd (cs := #[.int .i8 a1_0, .int .i8 a1_1]) (t := 64) ?hr ?_; (case hd => rfl); (case hg => rfl); (case hr => first | (go_simp; done) | (go_simp; rfl)); intro gb129 hg w3 hbox hb; have n0_ := Aside0.mk (below_step (by repeat (first | (with_reducible first | exact HB.out | apply below_alloc | apply pw_below_drewN | apply below_drew1) | exact HB.out)) hb); have n1_ := Aside0.mk (hbox); have n2_ := Aside0.mk ((by rw [hg]; exact (below_size (by repeat (first | (with_reducible first | exact HB.out | apply below_alloc | apply pw_below_drewN | apply below_drew1) | exact HB.out))) : w.heap.size ≤ gb129)); have n3_ := Aside0.mk ((by rw [hg]; exact (below_size (by repeat (first | (with_reducible first | exact HB.out | apply below_alloc | apply pw_below_drewN | apply below_drew1) | exact HB.out))) : w.heap.size ≤ gb129)); clear HB; have HB := n0_; have BK129 := n1_; have GW129 := n2_; have GE129 := n3_; clear n0_ n1_ n2_ n3_; clear hb hbox hg)); try go_wp2_with (first | ((with_reducible refine gate_dst (N := 3) rfl ?_); refine box_event ?hg (N := 3) ?hd (cs := #[.int .i8 a1_0, .int .i8 a1_1]) (t := 64) ?hr ?_; (case hd => rfl); (case hg => rfl); (case hr => first | (go_simp; done) | (go_simp; rfl)); intro gb129 hg w3 hbox hb; have n0_ := Aside0.mk (below_step (by repeat (first | (with_reducible first | exact HB.out | apply below_alloc | apply pw_below_drewN | apply below_drew1) | exact HB.out)) hb); have n1_ := Aside0.mk (hbox); have n2_ := Aside0.mk ((by rw [hg]; exact (below_size (by repeat (first | (with_reducible first | exact HB.out | apply below_alloc | apply pw_below_drewN | apply below_drew1) | exact HB.out))) : w.heap.size ≤ gb129)); have n3_ := Aside0.mk ((by rw [hg]; exact (below_size (by repeat (first | (with_reducible first | exact HB.out | apply below_alloc | apply pw_below_drewN | apply below_drew1) | exact HB.out))) : w.heap.size ≤ gb129)); clear HB; have HB := n0_; have BK129 := n1_; have GW129 := n2_; have GE129 := n3_; clear n0_ n1_ n2_ n3_; clear hb hbox hg)))
  go_loopg [8] k (fun kq v8 w' => ∃ (x8_1 : Int), v8 = .int .i64 x8_1 ∧ Aside0 (impl_Cover_116.l0 kq l0 (l0.length : Int) x8_1 a1_0 a1_1 = some r) ∧ Aside0 (kq ≤ k) ∧ Aside0 (w'.heap[gb129]? = some (.cells #[.int .i8 a1_0, .int .i8 a1_1] 64 (0, 0))) ∧ Aside0 (Below w.heap.size w w'))
  case atStart => exact ⟨(0), (by first | rfl | (simp; done) | (simp [*]; done)), H', ⟨Nat.le_refl _⟩, ⟨by (with_reducible repeat (first | refine blk_drewN ?_ _ | refine blk_drew ?_ | refine blk_alloc ?_ _)); exact BK129.out⟩, ⟨by repeat (first | (with_reducible first | exact HB.out | apply below_alloc | apply pw_below_drewN | apply below_drew1 | refine below_set ?_ GE129.out) | exact HB.out)⟩⟩
  case round =>
    clear H'
    try clear c1
    try clear p2
    obtain ⟨x8_1, rfl, HA, HK1, BK129, HB⟩ := hrel
    cases gk with
    | zero => exact absurd HA.out (by simp [impl_Cover_116.l0])
    | succ k1 =>
      have H := HA.out
      clear HA
      simp only [impl_Cover_116.l0] at H
      by_cases c4 : x8_1 < (l0.length : Int)
      · rw [if_pos c4] at H
        have c4b0 : decide (x8_1 < (l0.length : Int)) = true := decide_eq_true c4
        clear c4
        by_cases c5 : 0 ≤ x8_1
        · rw [if_pos c5] at H
          have c5b0 : decide (0 ≤ x8_1) = true := decide_eq_true c5
          clear c5
          by_cases c6 : x8_1 < (l0.length : Int)
          · rw [if_pos c6] at H
            have c6b0 : decide (x8_1 < (l0.length : Int)) = true := decide_eq_true c6
            clear c6
            by_cases c7 : (a1_0 == ((rd_T64 l0 x8_1).f0) && (a1_1 == ((rd_T64 l0 x8_1).f1))) = true
            · rw [if_pos c7] at H
              have c7b0 : (a1_0 == ((rd_T64 l0 x8_1).f0) && (a1_1 == ((rd_T64 l0 x8_1).f1))) = true := c7
              (try (have c7b1 : decide (a1_0 = ((rd_T64 l0 x8_1).f0) && (a1_1 == ((rd_T64 l0 x8_1).f1))) = true := by simpa using c7))
              (try (have c7b2 : (a1_0 == ((rd_T64 l0 x8_1).f0) && (a1_1 == ((rd_T64 l0 x8_1).f1))) = true := by simpa using c7))
              clear c7
              obtain rfl := Option.some.inj H
              have hcz8_0 : wr.cell? ⟨gb129, 0, none⟩ = some (.int .i8 a1_0) := (blk_cell BK129.out 0).trans rfl
              have hcz8_1 : wr.cell? ⟨gb129, 1, none⟩ = some (.int .i8 a1_1) := (blk_cell BK129.out 1).trans rfl
              have hfz8_0 := blk_frozen BK129.out 0
              have hfz8_1 := blk_frozen BK129.out 1
              have p130 : 0 ≤ (x8_1 : Int) := of_decide_eq_true (by first | (with_reducible assumption) | assumption)
              have q130 : x8_1 < (l0.length : Int) := of_decide_eq_true (by first | (with_reducible assumption) | assumption)
              obtain ⟨ad130, e130, hx130_0, hx130_1⟩ := at_T64 HR0.out x8_1 p130 q130
              cases e130
              replace hx130_0 := (HB.out.cell (World.block_lt_of_cell? w _ hx130_0)).trans hx130_0
              replace hx130_1 := (HB.out.cell (World.block_lt_of_cell? w _ hx130_1)).trans hx130_1
              replace p130 := eq_true p130
              replace q130 := eq_true q130
              go_wp2
              repeat (go_quiet (fail); try go_wp2)
              go_ret
              exact ⟨by first | rfl | (simp [errW_none, errW_some] <;> rfl) | (simp [*, errW_none, errW_some] <;> rfl), by repeat (first | (with_reducible first | exact HB.out | apply below_alloc | apply pw_below_drewN | apply below_drew1 | refine below_set ?_ GE129.out) | exact HB.out)⟩
            · rw [if_neg c7] at H
              have c7b0 : (a1_0 == ((rd_T64 l0 x8_1).f0) && (a1_1 == ((rd_T64 l0 x8_1).f1))) = false := by simpa using c7
              (try (have c7b1 : decide (a1_0 = ((rd_T64 l0 x8_1).f0) && (a1_1 == ((rd_T64 l0 x8_1).f1))) = false := by simpa using c7))
              (try (have c7b2 : (a1_0 == ((rd_T64 l0 x8_1).f0) && (a1_1 == ((rd_T64 l0 x8_1).f1))) = false := by simpa using c7))
              (try (have c7b3 : ¬ (a1_0 = ((rd_T64 l0 x8_1).f0) && (a1_1 == ((rd_T64 l0 x8_1).f1))) := by simpa using c7))
              clear c7
              have H' := Aside0.mk H
              clear H
              have hcz9_0 : wr.cell? ⟨gb129, 0, none⟩ = some (.int .i8 a1_0) := (blk_cell BK129.out 0).trans rfl
              have hcz9_1 : wr.cell? ⟨gb129, 1, none⟩ = some (.int .i8 a1_1) := (blk_cell BK129.out 1).trans rfl
              have hfz9_0 := blk_frozen BK129.out 0
              have hfz9_1 := blk_frozen BK129.out 1
              have p130 : 0 ≤ (x8_1 : Int) := of_decide_eq_true (by first | (with_reducible assumption) | assumption)
              have q130 : x8_1 < (l0.length : Int) := of_decide_eq_true (by first | (with_reducible assumption) | assumption)
              obtain ⟨ad130, e130, hx130_0, hx130_1⟩ := at_T64 HR0.out x8_1 p130 q130
              cases e130
              replace hx130_0 := (HB.out.cell (World.block_lt_of_cell? w _ hx130_0)).trans hx130_0
              replace hx130_1 := (HB.out.cell (World.block_lt_of_cell? w _ hx130_1)).trans hx130_1
              replace p130 := eq_true p130
              replace q130 := eq_true q130
              go_wp2
              repeat (go_quiet (fail); try go_wp2)
              go_roundg k1
              case measure => have := HK1.out; omega
              case rel => exact ⟨(wrap64 (x8_1 + 1)), (by first | rfl | (simp; done) | (simp [*]; done)), H', ⟨by have := HK1.out; omega⟩, ⟨by (with_reducible repeat (first | refine blk_drewN ?_ _ | refine blk_drew ?_ | refine blk_alloc ?_ _)); exact BK129.out⟩, ⟨by repeat (first | (with_reducible first | exact HB.out | apply below_alloc | apply pw_below_drewN | apply below_drew1 | refine below_set ?_ GE129.out) | exact HB.out)⟩⟩
          · rw [if_neg c6] at H
            exact absurd H (by simp)
        · rw [if_neg c5] at H
          exact absurd H (by simp)
      · rw [if_neg c4] at H
        have c4b0 : decide (x8_1 < (l0.length : Int)) = false := decide_eq_false c4
        clear c4
        obtain rfl := Option.some.inj H
        go_wp2
        repeat (go_quiet (fail); try go_wp2)
        go_ret
        exact ⟨by first | rfl | (simp [errW_none, errW_some] <;> rfl) | (simp [*, errW_none, errW_some] <;> rfl), by repeat (first | (with_reducible first | exact HB.out | apply below_alloc | apply pw_below_drewN | apply below_drew1 | refine below_set ?_ GE129.out) | exact HB.out)⟩

/-! ### impl_Cover_101: function 101 -/
def impl_Cover_101.f (k : Nat) (l0 : List (S64)) (a1_0 : Int) (a1_1 : Int) : Option (Bool) := (impl_Cover_116.f k l0 a1_0 a1_1).bind fun t132 => (some (decide (t132 ≥ 0)))
theorem impl_Cover_101.mono : ∀ a0 a1 a2 k, LeO (impl_Cover_101.f k a0 a1 a2) (impl_Cover_101.f (k + 1) a0 a1 a2) := by
  intro a0 a1 a2 k
  unfold impl_Cover_101.f
  repeat' first
      | (with_reducible exact impl_Cover_116.mono _ _ _ _)
      | (with_reducible exact LeO.refl _)
      | (with_reducible exact LeO.none _)
      | (with_reducible refine LeO.ite ?_ ?_)
      | (with_reducible refine LeO.bind ?_ (fun _ => ?_))
      | exact impl_Cover_116.mono _ _ _ _
      | exact LeO.none _
      | refine LeO.ite ?_ ?_
      | refine LeO.bind ?_ (fun _ => ?_)
set_option maxHeartbeats 8000000 in
set_option maxRecDepth 100000 in
theorem impl_Cover_101.calls (k : Nat) (A0 : Option Addr) (c0 : Nat) (l0 : List (S64)) (a1_0 : Int) (a1_1 : Int) (r : Bool) (w : World) (hr0 : Kd.C k64 w A0 l0.length l0) (hc0 : l0.length ≤ c0) (h : impl_Cover_101.f k l0 a1_0 a1_1 = some r) :
    Calls Try.prog 101 #[.slice A0 l0.length c0, .agg #[.int .i8 a1_0, .int .i8 a1_1]] w fun e w' => e = .returned (.bool r) ∧ Below w.heap.size w w' := by
  have hu64 := Try.underlying64
  have HR0 := Aside0.mk hr0
  have HC0 := Aside0.mk hc0
  clear hr0 hc0
  have HB := Aside0.mk (Below.refl w.heap.size w)
  have H : ((impl_Cover_116.f k l0 a1_0 a1_1).bind fun t132 => (some (decide (t132 ≥ 0)))) = some r := h
  clear h
  replace H := Option.bind_eq_some_iff.mp H
  obtain ⟨t132, A30, H⟩ := H
  replace H : (some (decide (t132 ≥ 0))) = some r := H
  have A3 := Aside0.mk A30
  clear A30
  obtain rfl := Option.some.inj H
  go_enter Try.func101, Try.ntmps101
  go_wp2_with (first | ((with_reducible refine gate_dst (N := 3) rfl ?_); refine box_event ?hg (N := 3) ?hd (cs := #[.int .i8 a1_0, .int .i8 a1_1]) (t := 64) ?hr ?_; (case hd => rfl); (case hg => rfl); (case hr => first | (go_simp; done) | (go_simp; rfl)); intro gb131 hg w4 hbox hb; have n0_ := Aside0.mk (below_step (by repeat (first | (with_reducible first | exact HB.out | apply below_alloc | apply pw_below_drewN | apply below_drew1) | exact HB.out)) hb); have n1_ := Aside0.mk (hbox); have n2_ := Aside0.mk ((by rw [hg]; exact (below_size (by repeat (first | (with_reducible first | exact HB.out | apply below_alloc | apply pw_below_drewN | apply below_drew1) | exact HB.out))) : w.heap.size ≤ gb131)); have n3_ := Aside0.mk ((by rw [hg]; exact (below_size (by repeat (first | (with_reducible first | exact HB.out | apply below_alloc | apply pw_below_drewN | apply below_drew1) | exact HB.out))) : w.heap.size ≤ gb131)); clear HB; have HB := n0_; have BK131 := n1_; have GW131 := n2_; have GE131 := n3_; clear n0_ n1_ n2_ n3_; clear hb hbox hg; have hcz5_0 : w4.cell? ⟨gb131, 0, none⟩ = some (.int .i8 a1_0) := (blk_cell BK131.out 0).trans rfl; have hcz5_1 : w4.cell? ⟨gb131, 1, none⟩ = some (.int .i8 a1_1) := (blk_cell BK131.out 1).trans rfl; have hfz5_0 := blk_frozen BK131.out 0; have hfz5_1 := blk_frozen BK131.out 1) | ((with_reducible refine gate_callee (f := 116) rfl ?_); refine goesL_ (some 7) rfl rfl Try.func116 (by kernel_rfl) rfl #[.slice A0 l0.length c0, .agg #[.int .i8 a1_0, .int .i8 a1_1]] rfl (by (try simp only [List.map_toArray, List.map_cons, List.map_nil]); first | done | rfl | (simp only [List.length_drop, List.length_take]; rfl)) ?_; (with_reducible refine (impl_Cover_116.calls k _ _ l0 a1_0 a1_1 t132 _ ?side1 ?side2 A3.out).mono ?_); (case side1 => repeat (first | exact (Kd.C_below HR0.out HB.out) | (with_reducible refine Kd.C_alloc ?_ _) | (with_reducible refine Kd.C_drewN ?_ _) | (with_reducible refine Kd.C_drew ?_))); (case side2 => exact HC0.out); rintro e w6 ⟨rfl, hb⟩; refine ⟨_, rfl, ?_⟩; have n0_ := Aside0.mk (blk_below (g := gb131) (o := .cells #[.int .i8 a1_0, .int .i8 a1_1] 64 (0, 0)) (by (with_reducible repeat (first | refine blk_drewN ?_ _ | refine blk_drew ?_ | refine blk_alloc ?_ _)); exact BK131.out) hb); have n1_ := Aside0.mk (below_step (by repeat (first | (with_reducible first | exact HB.out | apply below_alloc | apply pw_below_drewN | apply below_drew1 | refine below_set ?_ GE131.out) | exact HB.out)) hb); clear BK131; clear HB; have BK131 := n0_; have HB := n1_; clear n0_ n1_; (try clear hb); (try clear hb2); (try clear hk); (try clear hi)))
  go_ret
  exact ⟨by first | rfl | (simp [errW_none, errW_some] <;> rfl) | (simp [*, errW_none, errW_some] <;> rfl), by repeat (first | (with_reducible first | exact HB.out | apply below_alloc | apply pw_below_drewN | apply below_drew1 | refine below_set ?_ GE131.out) | exact HB.out)⟩

end Go.Proofs.Ytjcdgimldhodiaa.PFnExactGreedySlipped
