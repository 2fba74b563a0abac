/- Printed by this session's plus.py out of the translation, some functions' texts being this session's own. -/
import Derived.Test.YtjcdgimldhodiaaPFnExactFewestSlippedx0
namespace Go.Proofs.Ytjcdgimldhodiaa.PFnExactFewestSlipped
open Go.RowKit Go.Proofs.YtjcdgimldhodiaaW.PrintWords Go.Proofs.YtjcdgimldhodiaaW.PrintLast Go.Proofs.YtjcdgimldhodiaaW.PrintMore
attribute [local go_sem] max2_int min2_int max_two min_two max_three min_three max_four min_four   -- for this text's walks alone
set_option linter.unusedVariables false
set_option linter.unusedSimpArgs false

/-! ### spec_l03Over: function 53: this session's own text -/
theorem cell_of_ints {w : World} {g t : Nat} {k : IntKind} {xs : List Int} (h : w.heap[g]? = some (.cells (xs.map (Value.int k)).toArray t (0, 0))) {i : Int} (hi : i.toNat < xs.length) : w.cell? ⟨g, i.toNat, none⟩ = some (.int k (rd xs i)) := by
  rw [blk_cell h]
  simp [rd, List.getD_eq_getElem?_getD, List.getElem?_eq_getElem hi]
theorem ints_put {w : World} {g t : Nat} {k : IntKind} {xs : List Int} (h : w.heap[g]? = some (.cells (xs.map (Value.int k)).toArray t (0, 0))) (i : Nat) (u : Int) : (w.setCell ⟨g, i, none⟩ (.int k u)).heap[g]? = some (.cells ((xs.set i u).map (Value.int k)).toArray t (0, 0)) :=
  blk_put h i _ (by simp [List.map_set])
theorem drop_rd {α : Type} {xs : List α} {i : Int} (d : α) (h0 : 0 ≤ i) (h : i < (xs.length : Int)) : xs.drop i.toNat = xs.getD i.toNat d :: xs.drop (i + 1).toNat := by
  rw [show (i + 1).toNat = i.toNat + 1 by omega, List.drop_eq_getElem_cons (by omega), List.getD_eq_getElem?_getD, List.getElem?_eq_getElem (by omega)]
  rfl
theorem w64_in {a : Int} (h0 : -9223372036854775808 ≤ a) (h1 : a ≤ 9223372036854775807) : wrap64 a = a := by unfold wrap64; omega
theorem wi64 {a : Int} (h0 : -9223372036854775808 ≤ a) (h1 : a ≤ 9223372036854775807) : IntKind.i64.wrap a = a := by
  have : IntKind.i64.wrap a = if a % 18446744073709551616 ≥ 9223372036854775808 then a % 18446744073709551616 - 18446744073709551616 else a % 18446744073709551616 := by
    simp [IntKind.wrap, IntKind.signed, IntKind.bits]
  rw [this]
  split <;> omega

/-- W' is W but for the blocks that S tells, and for new ones. -/
structure Only (S : Nat → Prop) (W W' : World) : Prop where
  os : W'.os = W.os
  tape : W'.tape = W.tape
  output : W'.output = W.output
  size : W.heap.size ≤ W'.heap.size
  block : ∀ b, b < W.heap.size → ¬ S b → W'.heap[b]? = W.heap[b]?
theorem Only.refl (S : Nat → Prop) (W : World) : Only S W W := ⟨rfl, rfl, rfl, Nat.le_refl _, fun _ _ _ => rfl⟩
theorem Only.trans {S : Nat → Prop} {a b c : World} (h : Only S a b) (k : Only S b c) : Only S a c :=
  ⟨k.os.trans h.os, k.tape.trans h.tape, k.output.trans h.output, Nat.le_trans h.size k.size, fun i hi hs => (k.block i (Nat.lt_of_lt_of_le hi h.size) hs).trans (h.block i hi hs)⟩
theorem Only.mono {S S' : Nat → Prop} {a b : World} (h : Only S a b) (hs : ∀ i, S i → S' i) : Only S' a b := ⟨h.os, h.tape, h.output, h.size, fun i hi hn => h.block i hi (fun g => hn (hs i g))⟩
theorem Only.of_below {S : Nat → Prop} {a b : World} (h : Below a.heap.size a b) : Only S a b := ⟨h.os, h.tape, h.output, h.size, fun i hi _ => h.block i hi⟩
theorem Only.set {S : Nat → Prop} {a b : World} (h : Only S a b) {g : Nat} (hg : S g) (j : Nat) (v : Value) : Only S a (b.setCell ⟨g, j, none⟩ v) :=
  h.trans ⟨rfl, rfl, rfl, by simp [World.setCell], fun i hi hn => Below.heap_setCell _ _ _ _ (fun e => hn (by subst e; exact hg))⟩
theorem Only.alloc {S : Nat → Prop} {a b : World} (h : Only S a b) (o : Obj) : Only S a (b.alloc o) := h.trans (Only.of_below ((Below.refl _ _).alloc (Nat.le_refl _) o))
theorem Only.drewN {S : Nat → Prop} {a b : World} (h : Only S a b) (n : Nat) : Only S a (b.drewN n) := h.trans (Only.of_below (pw_below_drewN (Below.refl _ _) n))
theorem Only.drew {S : Nat → Prop} {a b : World} (h : Only S a b) : Only S a b.drew := h.trans (Only.of_below (below_drew (Below.refl _ _)))
theorem Only.blk {S : Nat → Prop} {a b : World} (h : Only S a b) {g : Nat} {o : Obj} (ho : a.heap[g]? = some o) (hg : ¬ S g) : b.heap[g]? = some o := (h.block g (blk_lt ho) hg).trans ho
theorem Only.below {S : Nat → Prop} {w a b : World} {B : Nat} (hb : Below B w a) (h : Only S a b) (hB : B ≤ a.heap.size) (hs : ∀ i, S i → B ≤ i) : Below B w b :=
  hb.trans ⟨h.os, h.tape, h.output, h.size, fun i hi => h.block i (by omega) (fun g => by have := hs i g; omega)⟩
theorem Only.to_below {S : Nat → Prop} {a b : World} (h : Only S a b) (hs : ∀ i, ¬ S i) : Below a.heap.size a b := ⟨h.os, h.tape, h.output, h.size, fun i hi => h.block i hi (hs i)⟩

/-- One cover more in the masks. -/
def orS (m : List Int) (x : S64) : List Int := m.set x.f1.toNat (Go.bits .or .u16 (rd m x.f1) (IntKind.u16.wrap (2 ^ min (IntKind.u64.wrap x.f0).toNat 16)))
/-- The masks of what lies over each chain. -/
def maskL (l : List S64) : List Int := l.foldl orS [0, 0, 0, 0, 0, 0, 0, 0, 0, 0, 0, 0]
theorem orS_length (m : List Int) (x : S64) : (orS m x).length = m.length := by simp [orS]
def spec_l03Over.f (l0 : List S64) : Option Bool := if l0.length ≤ 1048576 ∧ ∀ x ∈ l0, (0 ≤ x.f0 ∧ x.f0 < 12) ∧ (0 ≤ x.f1 ∧ x.f1 < 12) then some true else none
set_option maxHeartbeats 4000000 in
set_option maxRecDepth 100000 in
theorem spec_l03Over.calls (A0 : Option Addr) (c0 : Nat) (l0 : List (S64)) (w : World) (hr0 : Kd.C k64 w A0 l0.length l0) (hc0 : l0.length ≤ c0) (h : spec_l03Over.f l0 = some true) :
    Calls Try.prog 53 #[.slice A0 l0.length c0] w fun e w' => e = .returned (.agg ((maskL l0).map (Value.int .u16)).toArray) ∧ Below w.heap.size w w' := by
  unfold spec_l03Over.f at h
  by_cases hh : l0.length ≤ 1048576 ∧ ∀ x ∈ l0, (0 ≤ x.f0 ∧ x.f0 < 12) ∧ (0 ≤ x.f1 ∧ x.f1 < 12)
  · clear h
    have HH := Aside0.mk hh
    have HR0 := Aside0.mk hr0
    have HC0 := Aside0.mk hc0
    have HB := Aside0.mk (Below.refl w.heap.size w)
    clear hh hr0 hc0
    go_enter Try.func53, Try.ntmps53
    go_wp2
    go_loopg [4] l0.length (fun gk v4 w' => ∃ x : Nat, v4 = .int .i64 x ∧ Aside0 (x + gk = l0.length) ∧ Aside0 (w'.heap[w.heap.size + 1]? = some (.cells ((maskL (l0.take x)).map (Value.int .u16)).toArray 59 (0, 0))) ∧ Aside0 (w'.heap[w.heap.size]? = some (.cells (([0, 0, 0, 0, 0, 0, 0, 0, 0, 0, 0, 0] : List Int).map (Value.int .u16)).toArray 59 (0, 0))) ∧ Aside0 (Below w.heap.size w w'))
    case atStart =>
      have s1 : (w.alloc (.cells #[.int .u16 0, .int .u16 0, .int .u16 0, .int .u16 0, .int .u16 0, .int .u16 0, .int .u16 0, .int .u16 0, .int .u16 0, .int .u16 0, .int .u16 0, .int .u16 0] 59)).heap.size = w.heap.size + 1 := by simp
      have b1 := blk_new (w.alloc (.cells #[.int .u16 0, .int .u16 0, .int .u16 0, .int .u16 0, .int .u16 0, .int .u16 0, .int .u16 0, .int .u16 0, .int .u16 0, .int .u16 0, .int .u16 0, .int .u16 0] 59)) (.cells #[.int .u16 0, .int .u16 0, .int .u16 0, .int .u16 0, .int .u16 0, .int .u16 0, .int .u16 0, .int .u16 0, .int .u16 0, .int .u16 0, .int .u16 0, .int .u16 0] 59)
      rw [s1] at b1
      exact ⟨0, rfl, ⟨by omega⟩, ⟨b1⟩, ⟨blk_alloc (blk_new w _) _⟩, ⟨below_alloc (below_alloc HB.out _) _⟩⟩
    case round =>
      clear HB
      obtain ⟨x, rfl, HK, HS, HZ, HB⟩ := hrel
      by_cases c3 : (x : Int) < (l0.length : Int)
      · have p0 : 0 ≤ (x : Int) := by omega
        have hxn : x < l0.length := by omega
        obtain ⟨ad0, e0, hx0_0, hx0_1⟩ := at_T64 HR0.out x p0 c3
        cases e0
        replace hx0_0 := (HB.out.cell (World.block_lt_of_cell? w _ hx0_0)).trans hx0_0
        replace hx0_1 := (HB.out.cell (World.block_lt_of_cell? w _ hx0_1)).trans hx0_1
        simp only [Int.toNat_natCast] at hx0_0 hx0_1
        have hrd : rd_T64 l0 x = l0[x] := by rw [rd_T64, Int.toNat_natCast, List.getD_eq_getElem?_getD, List.getElem?_eq_getElem hxn]; rfl
        have hin := HH.out.2 l0[x] (List.getElem_mem hxn)
        rw [hrd] at hx0_0 hx0_1
        obtain ⟨u, hun⟩ : ∃ u : Nat, l0[x].f1 = (u : Int) := ⟨l0[x].f1.toNat, by omega⟩
        obtain ⟨v, hvn⟩ : ∃ v : Int, l0[x].f0 = v := ⟨_, rfl⟩
        rw [hun] at hx0_1
        rw [hvn] at hx0_0
        have hu12 : (u : Int) < 12 := by omega
        obtain ⟨m, hm⟩ : ∃ m, m = maskL (l0.take x) := ⟨_, rfl⟩
        have HSm := HS.out
        rw [← hm] at HSm
        have hml : m.length = 12 := by
          have key : ∀ (l : List S64) (m : List Int), (l.foldl orS m).length = m.length := by
            intro l
            induction l with
            | nil => intro m; rfl
            | cons y l ih => intro m; rw [List.foldl_cons, ih, orS_length]
          rw [hm]; exact key _ _
        have hs : wr.cell? ⟨w.heap.size + 1, u, none⟩ = some (.int .u16 (rd m (u : Int))) := by
          have := cell_of_ints HSm (i := (u : Int)) (by rw [hml, Int.toNat_natCast]; omega)
          rwa [Int.toNat_natCast] at this
        have hfz : wr.frozen? ⟨w.heap.size + 1, u, none⟩ = false := blk_frozen HSm u
        have HM : Aside0 (maskL (l0.take (x + 1)) = m.set u (Go.bits .or .u16 (rd m (u : Int)) (IntKind.u16.wrap (2 ^ min (IntKind.u64.wrap v).toNat 16)))) := ⟨by
          rw [List.take_succ_eq_append_getElem hxn]
          unfold maskL at hm ⊢
          rw [List.foldl_append, ← hm]
          show orS m l0[x] = _
          unfold orS
          rw [hun, hvn, Int.toNat_natCast]⟩
        have HSM := Aside0.mk HSm
        have HV : Aside0 (0 ≤ v ∧ v < 12) := ⟨by omega⟩
        have HX : Aside0 (wrap64 ((x : Int) + 1) = ((x + 1 : Nat) : Int)) := ⟨by have := HH.out.1; unfold wrap64; omega⟩
        have c3b : decide ((x : Int) < (l0.length : Int)) = true := decide_eq_true c3
        have c3n : decide (x < l0.length) = true := decide_eq_true hxn
        have p0b : decide (0 ≤ (x : Int)) = true := decide_eq_true p0
        have hu := Try.underlying64
        clear p0 hrd hin hun hvn hm hml HSm
        go_wp2
        go_region
        all_goals go_wp2
        all_goals
          go_roundg (gk - 1)
          case measure => have := HK.out; omega
          case rel =>
            exact ⟨x + 1, by first | rfl | rw [HX.out], ⟨by have := HK.out; omega⟩, ⟨by rw [HM.out]; exact blk_drew (ints_put HSM.out u _)⟩, ⟨blk_drew (blk_far HZ.out (show w.heap.size ≠ w.heap.size + 1 by omega) _)⟩, ⟨below_drew (HB.out.setCell (show w.heap.size ≤ w.heap.size + 1 by omega) _)⟩⟩
      · have c3b : decide ((x : Int) < (l0.length : Int)) = false := decide_eq_false c3
        have c3n : decide (x < l0.length) = false := decide_eq_false (by omega)
        have hx : l0.take x = l0 := List.take_of_length_le (by omega)
        have hml : (maskL l0).length = 12 := by
          have key : ∀ (l : List S64) (m : List Int), (l.foldl orS m).length = m.length := by
            intro l
            induction l with
            | nil => intro m; rfl
            | cons y l ih => intro m; rw [List.foldl_cons, ih, orS_length]
          exact key _ _
        have HSm := HS.out
        rw [hx] at HSm
        obtain ⟨m, hm⟩ : ∃ m, m = maskL l0 := ⟨_, rfl⟩
        rw [← hm] at HSm hml
        obtain ⟨v0, v1, v2, v3, v4, v5, v6, v7, v8, v9, v10, v11, rfl⟩ : ∃ v0 v1 v2 v3 v4 v5 v6 v7 v8 v9 v10 v11 : Int, m = [v0, v1, v2, v3, v4, v5, v6, v7, v8, v9, v10, v11] := by
          match m, hml with
          | [v0, v1, v2, v3, v4, v5, v6, v7, v8, v9, v10, v11], _ => exact ⟨v0, v1, v2, v3, v4, v5, v6, v7, v8, v9, v10, v11, rfl⟩
        have hc0 : wr.cell? ⟨w.heap.size + 1, 0, none⟩ = some (.int .u16 v0) := blk_cell HSm 0
        have hz0 : wr.cell? ⟨w.heap.size, 0, none⟩ = some (.int .u16 0) := blk_cell HZ.out 0
        have hc1 : wr.cell? ⟨w.heap.size + 1, 1, none⟩ = some (.int .u16 v1) := blk_cell HSm 1
        have hz1 : wr.cell? ⟨w.heap.size, 1, none⟩ = some (.int .u16 0) := blk_cell HZ.out 1
        have hc2 : wr.cell? ⟨w.heap.size + 1, 2, none⟩ = some (.int .u16 v2) := blk_cell HSm 2
        have hz2 : wr.cell? ⟨w.heap.size, 2, none⟩ = some (.int .u16 0) := blk_cell HZ.out 2
        have hc3 : wr.cell? ⟨w.heap.size + 1, 3, none⟩ = some (.int .u16 v3) := blk_cell HSm 3
        have hz3 : wr.cell? ⟨w.heap.size, 3, none⟩ = some (.int .u16 0) := blk_cell HZ.out 3
        have hc4 : wr.cell? ⟨w.heap.size + 1, 4, none⟩ = some (.int .u16 v4) := blk_cell HSm 4
        have hz4 : wr.cell? ⟨w.heap.size, 4, none⟩ = some (.int .u16 0) := blk_cell HZ.out 4
        have hc5 : wr.cell? ⟨w.heap.size + 1, 5, none⟩ = some (.int .u16 v5) := blk_cell HSm 5
        have hz5 : wr.cell? ⟨w.heap.size, 5, none⟩ = some (.int .u16 0) := blk_cell HZ.out 5
        have hc6 : wr.cell? ⟨w.heap.size + 1, 6, none⟩ = some (.int .u16 v6) := blk_cell HSm 6
        have hz6 : wr.cell? ⟨w.heap.size, 6, none⟩ = some (.int .u16 0) := blk_cell HZ.out 6
        have hc7 : wr.cell? ⟨w.heap.size + 1, 7, none⟩ = some (.int .u16 v7) := blk_cell HSm 7
        have hz7 : wr.cell? ⟨w.heap.size, 7, none⟩ = some (.int .u16 0) := blk_cell HZ.out 7
        have hc8 : wr.cell? ⟨w.heap.size + 1, 8, none⟩ = some (.int .u16 v8) := blk_cell HSm 8
        have hz8 : wr.cell? ⟨w.heap.size, 8, none⟩ = some (.int .u16 0) := blk_cell HZ.out 8
        have hc9 : wr.cell? ⟨w.heap.size + 1, 9, none⟩ = some (.int .u16 v9) := blk_cell HSm 9
        have hz9 : wr.cell? ⟨w.heap.size, 9, none⟩ = some (.int .u16 0) := blk_cell HZ.out 9
        have hc10 : wr.cell? ⟨w.heap.size + 1, 10, none⟩ = some (.int .u16 v10) := blk_cell HSm 10
        have hz10 : wr.cell? ⟨w.heap.size, 10, none⟩ = some (.int .u16 0) := blk_cell HZ.out 10
        have hc11 : wr.cell? ⟨w.heap.size + 1, 11, none⟩ = some (.int .u16 v11) := blk_cell HSm 11
        have hz11 : wr.cell? ⟨w.heap.size, 11, none⟩ = some (.int .u16 0) := blk_cell HZ.out 11
        have hf : ∀ j, wr.frozen? ⟨w.heap.size, j, none⟩ = false := fun j => blk_frozen HZ.out j
        have HM := Aside0.mk hm
        clear c3 hm hml HSm
        go_wp2
        have hw := (ints_put (ints_put (ints_put (ints_put (ints_put (ints_put (ints_put (ints_put (ints_put (ints_put (ints_put (ints_put HZ.out 0 v0) 1 v1) 2 v2) 3 v3) 4 v4) 5 v5) 6 v6) 7 v7) 8 v8) 9 v9) 10 v10) 11 v11)
        rw [show ((((((((((((([0, 0, 0, 0, 0, 0, 0, 0, 0, 0, 0, 0] : List Int).set 0 v0).set 1 v1).set 2 v2).set 3 v3).set 4 v4).set 5 v5).set 6 v6).set 7 v7).set 8 v8).set 9 v9).set 10 v10).set 11 v11) = [v0, v1, v2, v3, v4, v5, v6, v7, v8, v9, v10, v11] from rfl] at hw
        have hO := (Only.set (S := (· = w.heap.size)) (Only.set (S := (· = w.heap.size)) (Only.set (S := (· = w.heap.size)) (Only.set (S := (· = w.heap.size)) (Only.set (S := (· = w.heap.size)) (Only.set (S := (· = w.heap.size)) (Only.set (S := (· = w.heap.size)) (Only.set (S := (· = w.heap.size)) (Only.set (S := (· = w.heap.size)) (Only.set (S := (· = w.heap.size)) (Only.set (S := (· = w.heap.size)) (Only.set (S := (· = w.heap.size)) (Only.refl (· = w.heap.size) wr) rfl 0 (.int .u16 v0)) rfl 1 (.int .u16 v1)) rfl 2 (.int .u16 v2)) rfl 3 (.int .u16 v3)) rfl 4 (.int .u16 v4)) rfl 5 (.int .u16 v5)) rfl 6 (.int .u16 v6)) rfl 7 (.int .u16 v7)) rfl 8 (.int .u16 v8)) rfl 9 (.int .u16 v9)) rfl 10 (.int .u16 v10)) rfl 11 (.int .u16 v11))
        obtain ⟨Wf, hWf⟩ : ∃ W', W' = ((((((((((((wr.setCell ⟨w.heap.size, 0, none⟩ (.int .u16 v0)).setCell ⟨w.heap.size, 1, none⟩ (.int .u16 v1)).setCell ⟨w.heap.size, 2, none⟩ (.int .u16 v2)).setCell ⟨w.heap.size, 3, none⟩ (.int .u16 v3)).setCell ⟨w.heap.size, 4, none⟩ (.int .u16 v4)).setCell ⟨w.heap.size, 5, none⟩ (.int .u16 v5)).setCell ⟨w.heap.size, 6, none⟩ (.int .u16 v6)).setCell ⟨w.heap.size, 7, none⟩ (.int .u16 v7)).setCell ⟨w.heap.size, 8, none⟩ (.int .u16 v8)).setCell ⟨w.heap.size, 9, none⟩ (.int .u16 v9)).setCell ⟨w.heap.size, 10, none⟩ (.int .u16 v10)).setCell ⟨w.heap.size, 11, none⟩ (.int .u16 v11)) := ⟨_, rfl⟩
        rw [← hWf] at hw hO ⊢
        clear hWf
        have hr0 : Wf.cell? ⟨w.heap.size, 0, none⟩ = some (.int .u16 v0) := blk_cell hw 0
        have hr1 : Wf.cell? ⟨w.heap.size, 1, none⟩ = some (.int .u16 v1) := blk_cell hw 1
        have hr2 : Wf.cell? ⟨w.heap.size, 2, none⟩ = some (.int .u16 v2) := blk_cell hw 2
        have hr3 : Wf.cell? ⟨w.heap.size, 3, none⟩ = some (.int .u16 v3) := blk_cell hw 3
        have hr4 : Wf.cell? ⟨w.heap.size, 4, none⟩ = some (.int .u16 v4) := blk_cell hw 4
        have hr5 : Wf.cell? ⟨w.heap.size, 5, none⟩ = some (.int .u16 v5) := blk_cell hw 5
        have hr6 : Wf.cell? ⟨w.heap.size, 6, none⟩ = some (.int .u16 v6) := blk_cell hw 6
        have hr7 : Wf.cell? ⟨w.heap.size, 7, none⟩ = some (.int .u16 v7) := blk_cell hw 7
        have hr8 : Wf.cell? ⟨w.heap.size, 8, none⟩ = some (.int .u16 v8) := blk_cell hw 8
        have hr9 : Wf.cell? ⟨w.heap.size, 9, none⟩ = some (.int .u16 v9) := blk_cell hw 9
        have hr10 : Wf.cell? ⟨w.heap.size, 10, none⟩ = some (.int .u16 v10) := blk_cell hw 10
        have hr11 : Wf.cell? ⟨w.heap.size, 11, none⟩ = some (.int .u16 v11) := blk_cell hw 11
        have HO := Aside0.mk hO
        clear hw hO hf hc0 hz0 hc1 hz1 hc2 hz2 hc3 hz3 hc4 hz4 hc5 hz5 hc6 hz6 hc7 hz7 hc8 hz8 hc9 hz9 hc10 hz10 hc11 hz11
        exact bodyPost_ret (v := .agg #[.int .u16 v0, .int .u16 v1, .int .u16 v2, .int .u16 v3, .int .u16 v4, .int .u16 v5, .int .u16 v6, .int .u16 v7, .int .u16 v8, .int .u16 v9, .int .u16 v10, .int .u16 v11]) (by simp [results, Try.results53, go_sem, hr0, hr1, hr2, hr3, hr4, hr5, hr6, hr7, hr8, hr9, hr10, hr11]) rfl ⟨by rw [← HM.out]; rfl, Only.below HB.out HO.out HB.out.size (fun i hi => by subst hi; omega)⟩
  · rw [if_neg hh] at h; cases h

/-! ### spec_l03List: function 54 -/
def spec_l03List.l0 : Nat → Int → List Int → Int → Option (List Int)
  | 0, _, _, _ => none
  | k + 1, x0, x3, x4 => if x4 < 12 then (if 0 ≤ (IntKind.u64.wrap (x4)) then (if (Go.bits .and .u16 (shr .u16 x0 (IntKind.u64.wrap (x4))) 1) = 1 then (if x3.length < 17592186044416 then (spec_l03List.l0 k x0 (x3 ++ [x4]) (wrap64 (x4 + 1))) else (none)) else (spec_l03List.l0 k x0 x3 (wrap64 (x4 + 1)))) else (none)) else (some x3)
def spec_l03List.f (k : Nat) (a0 : Int) : Option (List Int) := spec_l03List.l0 k a0 (([] : List Int)) 0
theorem spec_l03List.mono_l : ∀ k, (∀ y0 y1 y2, LeO (spec_l03List.l0 k y0 y1 y2) (spec_l03List.l0 (k + 1) y0 y1 y2))
  | 0 => fun _ _ _ r h => by simp [spec_l03List.l0] at h
  | k + 1 => by
    have ih0 := spec_l03List.mono_l k
    · intro y0 y1 y2
      unfold spec_l03List.l0
      repeat' first
      | (with_reducible exact ih0 _ _ _)
      | (with_reducible exact LeO.refl _)
      | (with_reducible exact LeO.none _)
      | (with_reducible refine LeO.ite ?_ ?_)
      | (with_reducible refine LeO.bind ?_ (fun _ => ?_))
      | exact ih0 _ _ _
      | exact LeO.none _
      | refine LeO.ite ?_ ?_
      | refine LeO.bind ?_ (fun _ => ?_)
theorem spec_l03List.mono : ∀ a0 k, LeO (spec_l03List.f k a0) (spec_l03List.f (k + 1) a0) := by
  intro a0 k
  have ih0 := spec_l03List.mono_l k
  unfold spec_l03List.f
  repeat' first
      | (with_reducible exact ih0 _ _ _)
      | (with_reducible exact LeO.refl _)
      | (with_reducible exact LeO.none _)
      | (with_reducible refine LeO.ite ?_ ?_)
      | (with_reducible refine LeO.bind ?_ (fun _ => ?_))
      | exact ih0 _ _ _
      | exact LeO.none _
      | refine LeO.ite ?_ ?_
      | refine LeO.bind ?_ (fun _ => ?_)
set_option maxHeartbeats 8000000 in
set_option maxRecDepth 100000 in
theorem spec_l03List.calls (k : Nat) (a0 : Int) (r : List Int) (w : World) (h : spec_l03List.f k a0 = some r) :
    Calls Try.prog 54 #[.int .u16 a0] w fun e w' => ∃ v0_ : Value, e = .returned (v0_) ∧ Kd.R (Kd.int .i64) 2 w' w.heap.size (fun _ => True) v0_ r ∧ Below w.heap.size w w' := by
  have HB := Aside0.mk (Below.refl w.heap.size w)
  have H : (spec_l03List.l0 k a0 (([] : List Int)) 0) = some r := h
  clear h
  obtain ⟨y129, hy129⟩ : ∃ y_ : List Int, y_ = (([] : List Int)) := ⟨_, rfl⟩
  replace H : (spec_l03List.l0 k a0 y129 0) = some r := by first | (rw [hy129]; with_reducible exact H) | (have H2_ := (Option.bind_some _ _).symm.trans H; rw [hy129]; with_reducible exact H2_) | (have H2_ := (Option.bind_some _ _).symm.trans H; with_reducible exact H2_) | with_reducible exact H | (rw [hy129]; exact H) | exact H
  have Ny129 := Aside0.mk hy129
  clear hy129
  have H' := Aside0.mk H
  clear H
  go_enter Try.func54, Try.ntmps54
  go_wp2_with (first | ((with_reducible refine gate_dst (N := 5) rfl ?_); refine Kd.R_lit (Kd.int .i64) _ 2 ?hg (N := 5) ?hd (xs := ([] : List Int)) (inner := []) (ok := fun _ => True) (okp := fun _ => True) ?hr ?hp (fun _ hk => hk) trivial (Below.refl _ _) (Nat.le_refl _) (by simp) ?_; (case hd => rfl); (case hg => rfl); (case hr => first | (go_simp; done) | (go_simp; rfl)); (case hp => exact (Reps.none _ _)); intro v130 w2 ho3 hb hg_ hnew_; clear hg_ hnew_; (first | rw [← Ny129.out] at ho3 | (simp only [Int.reduceToNat] at ho3; rw [← Ny129.out] at ho3)); have n0_ := Aside0.mk (Kd.R_lower ho3 (below_size (by repeat (first | (with_reducible first | exact HB.out | apply below_alloc | apply pw_below_drewN | apply below_drew1) | exact HB.out)))); have n1_ := Aside0.mk (below_step (by repeat (first | (with_reducible first | exact HB.out | apply below_alloc | apply pw_below_drewN | apply below_drew1) | exact HB.out)) hb); clear HB; have HO131 := n0_; have HB := n1_; clear n0_ n1_; clear hb ho3))
  go_loopg [3, 4] k (fun kq v3 v4 w' => ∃ (x3_1 : List Int) (x4_1 : Int), v4 = .int .i64 x4_1 ∧ Aside0 (spec_l03List.l0 kq a0 x3_1 x4_1 = some r) ∧ Aside0 (kq ≤ k) ∧ Aside0 (Kd.R (Kd.int .i64) 2 w' w.heap.size (fun _ => True) v3 x3_1) ∧ Aside0 (Below w.heap.size w w'))
  case atStart => exact ⟨(y129), (0), (by first | rfl | (simp; done) | (simp [*]; done)), H', ⟨Nat.le_refl _⟩, ⟨by (with_reducible repeat (first | apply Kd.R_alloc | apply Kd.R_drewN | apply Kd.R_drew)); exact HO131.out⟩, ⟨by repeat (first | (with_reducible first | exact HB.out | apply below_alloc | apply pw_below_drewN | apply below_drew1) | exact HB.out)⟩⟩
  case round =>
    clear H'
    try clear p2
    obtain ⟨x3_1, x4_1, rfl, HA, HK1, HO_3, HB⟩ := hrel
    cases gk with
    | zero => exact absurd HA.out (by simp [spec_l03List.l0])
    | succ k1 =>
      have H := HA.out
      clear HA
      simp only [spec_l03List.l0] at H
      by_cases c4 : x4_1 < 12
      · rw [if_pos c4] at H
        have c4b0 : decide (x4_1 < 12) = true := decide_eq_true c4
        clear c4
        obtain ⟨ji5, hji5⟩ : ∃ j_ : Int, (IntKind.u64.wrap (x4_1)) = j_ := ⟨_, rfl⟩
        replace H : (if 0 ≤ (ji5) then (if (Go.bits .and .u16 (shr .u16 a0 (ji5)) 1) = 1 then (if x3_1.length < 17592186044416 then (spec_l03List.l0 k1 a0 (x3_1 ++ [x4_1]) (wrap64 (x4_1 + 1))) else (none)) else (spec_l03List.l0 k1 a0 x3_1 (wrap64 (x4_1 + 1)))) else (none)) = some r := by first | (rw [hji5] at H; exact H) | (simp only [hji5] at H ⊢; exact H)
        by_cases c6 : 0 ≤ (ji5)
        · rw [if_pos c6] at H
          have c6b0 := eq_true c6
          have c6b1 : decide (0 ≤ (ji5)) = true := decide_eq_true c6
          clear c6
          obtain ⟨ji7, hji7⟩ : ∃ j_ : Int, (shr .u16 a0 (ji5)) = j_ := ⟨_, rfl⟩
          replace H : (if (Go.bits .and .u16 (ji7) 1) = 1 then (if x3_1.length < 17592186044416 then (spec_l03List.l0 k1 a0 (x3_1 ++ [x4_1]) (wrap64 (x4_1 + 1))) else (none)) else (spec_l03List.l0 k1 a0 x3_1 (wrap64 (x4_1 + 1)))) = some r := by first | (rw [hji7] at H; exact H) | (simp only [hji7] at H ⊢; exact H)
          have hji7_ : (a0 / 2 ^ min (ji5).toNat 16) = ji7 := hji7
          have hji7z : (ji5) ≤ 16 → (a0 / 2 ^ (ji5).toNat) = ji7 := shr_small hji7
          by_cases c8 : (Go.bits .and .u16 (ji7) 1) = 1
          · rw [if_pos c8] at H
            have c8b0 : ((Go.bits .and .u16 (ji7) 1) == 1) = true := beq_iff_eq.mpr c8
            have c8b1 : ((Go.bits .and .u16 (ji7) 1) != 1) = false := bne_eq_false_iff_eq.mpr c8
            clear c8
            by_cases c9 : x3_1.length < 17592186044416
            · rw [if_pos c9] at H
              have LMc9 := Aside0.mk c9
              clear c9
              obtain ⟨y132, hy132⟩ : ∃ y_ : List Int, y_ = (x3_1 ++ [x4_1]) := ⟨_, rfl⟩
              replace H : (spec_l03List.l0 k1 a0 y132 (wrap64 (x4_1 + 1))) = some r := by first | (rw [hy132]; with_reducible exact H) | (have H2_ := (Option.bind_some _ _).symm.trans H; rw [hy132]; with_reducible exact H2_) | (have H2_ := (Option.bind_some _ _).symm.trans H; with_reducible exact H2_) | with_reducible exact H | (rw [hy132]; exact H) | exact H
              have Ny132 := Aside0.mk hy132
              clear hy132
              have H' := Aside0.mk H
              clear H
              go_wp2_with (first | ((with_reducible refine gate_builtin (b := .append) (xs := #[.tmp 16, .tmp 18]) rfl ?_); at_builtin; refine Kd.R_append (Kd.int .i64) (w0 := w) w.heap.size rfl (.tmp 16) (.tmp 18) 24 2 (.int .i64 0) 8 rfl Try.underlying24 info2 rfl (by decide) (by omega) u3 x3_1 x4_1 [.int .i64 x4_1] (fun _ => True) (fun _ => False) rfl rfl ?aP (fun _ hk => hk.elim) ?aF ?aO ?aB ?aS ?aL ?_; (case aP => exact rfl); (case aB => exact (by repeat (first | (with_reducible first | exact HB.out | apply below_alloc | apply pw_below_drewN | apply below_drew1) | exact HB.out))); (case aF => exact (fun _ _ => trivial)); (case aO => exact (by (with_reducible repeat (first | apply Kd.R_alloc | apply Kd.R_drewN | apply Kd.R_drew)); exact HO_3.out)); (case aS => exact (below_size (by repeat (first | (with_reducible first | exact HB.out | apply below_alloc | apply pw_below_drewN | apply below_drew1) | exact HB.out)))); (case aL => have := LMc9.out; omega); intro v133 w10 ho hb hg hat; rw [← Ny132.out] at ho; have n0_ := Aside0.mk (hb); have n1_ := Aside0.mk (ho); clear HB; clear HO_3; have HB := n0_; have HO134 := n1_; clear n0_ n1_; clear ho hb hg hat))
              go_roundg k1
              case measure => have := HK1.out; omega
              case rel => exact ⟨(y132), (wrap64 (x4_1 + 1)), (by first | rfl | (simp; done) | (simp [*]; done)), H', ⟨by have := HK1.out; omega⟩, ⟨by (with_reducible repeat (first | apply Kd.R_alloc | apply Kd.R_drewN | apply Kd.R_drew)); exact HO134.out⟩, ⟨by repeat (first | (with_reducible first | exact HB.out | apply below_alloc | apply pw_below_drewN | apply below_drew1) | exact HB.out)⟩⟩
            · rw [if_neg c9] at H
              exact absurd H (by simp)
          · rw [if_neg c8] at H
            have c8b0 : ((Go.bits .and .u16 (ji7) 1) == 1) = false := beq_eq_false_iff_ne.mpr c8
            have c8b1 : ((Go.bits .and .u16 (ji7) 1) != 1) = true := bne_iff_ne.mpr c8
            have H' := Aside0.mk H
            clear H
            go_wp2
            go_roundg k1
            case measure => have := HK1.out; omega
            case rel => exact ⟨(x3_1), (wrap64 (x4_1 + 1)), (by first | rfl | (simp; done) | (simp [*]; done)), H', ⟨by have := HK1.out; omega⟩, ⟨by (with_reducible repeat (first | apply Kd.R_alloc | apply Kd.R_drewN | apply Kd.R_drew)); exact HO_3.out⟩, ⟨by repeat (first | (with_reducible first | exact HB.out | apply below_alloc | apply pw_below_drewN | apply below_drew1) | exact HB.out)⟩⟩
        · rw [if_neg c6] at H
          exact absurd H (by simp)
      · rw [if_neg c4] at H
        have c4b0 : decide (x4_1 < 12) = false := decide_eq_false c4
        clear c4
        obtain rfl := Option.some.inj H
        go_wp2
        go_ret
        exact ⟨_, by first | rfl | (simp [errW_none, errW_some] <;> rfl) | (simp [*, errW_none, errW_some] <;> rfl), by (with_reducible repeat (first | apply Kd.R_alloc | apply Kd.R_drewN | apply Kd.R_drew)); exact HO_3.out, by repeat (first | (with_reducible first | exact HB.out | apply below_alloc | apply pw_below_drewN | apply below_drew1) | exact HB.out)⟩

/-! ### spec_l03All: function 68 -/
def spec_l03All.f (a0 : Int) : Option (Int) := if 0 ≤ (IntKind.u64.wrap (a0)) then (some (IntKind.u16.wrap ((shl .u16 1 (IntKind.u64.wrap (a0))) - 1))) else (none)
set_option maxHeartbeats 8000000 in
set_option maxRecDepth 100000 in
theorem spec_l03All.calls (a0 : Int) (r : Int) (w : World) (h : spec_l03All.f a0 = some r) :
    Calls Try.prog 68 #[.int .i64 a0] w fun e w' => e = .returned (.int .u16 r) ∧ Drawn0 w w' := by
  have H : (if 0 ≤ (IntKind.u64.wrap (a0)) then (some (IntKind.u16.wrap ((shl .u16 1 (IntKind.u64.wrap (a0))) - 1))) else (none)) = some r := h
  clear h
  obtain ⟨ji2, hji2⟩ : ∃ j_ : Int, (IntKind.u64.wrap (a0)) = j_ := ⟨_, rfl⟩
  replace H : (if 0 ≤ (ji2) then (some (IntKind.u16.wrap ((shl .u16 1 (ji2)) - 1))) else (none)) = some r := by first | (rw [hji2] at H; exact H) | (simp only [hji2] at H ⊢; exact H)
  by_cases c3 : 0 ≤ (ji2)
  · rw [if_pos c3] at H
    have c3b0 := eq_true c3
    have c3b1 : decide (0 ≤ (ji2)) = true := decide_eq_true c3
    clear c3
    obtain ⟨ji4, hji4⟩ : ∃ j_ : Int, (shl .u16 1 (ji2)) = j_ := ⟨_, rfl⟩
    replace H : (some (IntKind.u16.wrap ((ji4) - 1))) = some r := by first | (rw [hji4] at H; exact H) | (simp only [hji4] at H ⊢; exact H)
    have hji4_ : (IntKind.u16.wrap (1 * 2 ^ min (ji2).toNat 16)) = ji4 := hji4
    have hji4z : (ji2) ≤ 16 → (IntKind.u16.wrap (1 * 2 ^ (ji2).toNat)) = ji4 := shl_small hji4
    have hji4u : (IntKind.u16.wrap (2 ^ min (ji2).toNat 16)) = ji4 := by have h_ := hji4_; rw [Int.one_mul] at h_; exact h_
    have hji4v : (ji2) ≤ 16 → (IntKind.u16.wrap (2 ^ (ji2).toNat)) = ji4 := fun hle_ => by have h_ := hji4z hle_; rw [Int.one_mul] at h_; exact h_
    obtain rfl := Option.some.inj H
    go_enter Try.func68, Try.ntmps68
    go_wp2
    go_ret
    exact ⟨by first | rfl | (simp; done) | (simp only [← hji2, ← hji4] <;> (first | rfl | simp)) | (simp [*]; done), by repeat (first | exact Drawn0.refl _ | apply Drawn0.step)⟩
  · rw [if_neg c3] at H
    exact absurd H (by simp)

/-! ### spec_l03Free: function 67: this session's own text -/
/-- The bit of a number. -/
def bitN (x : Nat) : Int := IntKind.u16.wrap (2 ^ x)
/-- Those of the first numbers that are free. -/
def freeB (m : List Int) (s : Int) : Nat → Int
  | 0 => 0
  | x + 1 => if Go.bits .and .u16 s (bitN x) ≠ 0 ∧ Go.bits .and .u16 (rd m x) s = 0 then Go.bits .or .u16 (freeB m s x) (bitN x) else freeB m s x
def spec_l03Free.f (l0 : List Int) (a1 : Int) : Option Int := if l0.length = 12 then some (freeB l0 a1 12) else none
set_option maxHeartbeats 4000000 in
set_option maxRecDepth 100000 in
theorem spec_l03Free.calls (p : Nat) (m : List Int) (s r : Int) (w : World) (hb : w.heap[p]? = some (.cells (m.map (Value.int .u16)).toArray 59 (0, 0))) (h : spec_l03Free.f m s = some r) :
    Calls Try.prog 67 #[.pointer (some ⟨p, 0, none⟩), .int .u16 s] w fun e w' => e = .returned (.int .u16 r) ∧ Below w.heap.size w w' := by
  unfold spec_l03Free.f at h
  by_cases hh : m.length = 12
  · rw [if_pos hh] at h
    obtain rfl := Option.some.inj h
    have HM := Aside0.mk (And.intro hh hb)
    have HB := Aside0.mk (Below.refl w.heap.size w)
    clear hh hb h
    go_enter Try.func67, Try.ntmps67
    go_wp2
    go_loopg [5, 6] 12 (fun gk v5 v6 w' => ∃ x : Nat, v6 = .int .i64 x ∧ v5 = .int .u16 (freeB m s x) ∧ Aside0 (x + gk = 12) ∧ Aside0 (Below w.heap.size w w'))
    case atStart => exact ⟨0, rfl, rfl, ⟨by omega⟩, HB⟩
    case round =>
      clear HB
      obtain ⟨x, rfl, rfl, HK, HB⟩ := hrel
      by_cases c3 : (x : Int) < 12
      · have hxn : x < 12 := by omega
        have hs : wr.cell? ⟨p, x, none⟩ = some (.int .u16 (rd m (x : Int))) := by
          have := cell_of_ints HM.out.2 (i := (x : Int)) (by rw [HM.out.1, Int.toNat_natCast]; omega)
          rw [Int.toNat_natCast] at this
          exact (HB.out.cell (World.block_lt_of_cell? w _ this)).trans this
        have HX : Aside0 (wrap64 ((x : Int) + 1) = ((x + 1 : Nat) : Int)) := ⟨by unfold wrap64; omega⟩
        have c3b : decide ((x : Int) < 12) = true := decide_eq_true c3
        have c3n : decide (x < 12) = true := decide_eq_true hxn
        have p0b : decide (0 ≤ (x : Int)) = true := decide_eq_true (by omega)
        clear c3
        by_cases c1 : Go.bits .and .u16 s (bitN x) = 0
        · have HF : Aside0 (freeB m s (x + 1) = freeB m s x) := ⟨by simp only [freeB]; rw [if_neg (fun g => g.1 c1)]⟩
          have c1b : (Go.bits .and .u16 s (IntKind.u16.wrap (2 ^ x)) != 0) = false := bne_eq_false_iff_eq.mpr c1
          have c1c : (Go.bits .and .u16 s (IntKind.u16.wrap (2 ^ x)) == 0) = true := beq_iff_eq.mpr c1
          clear c1
          go_wp2
          go_roundg (gk - 1)
          case measure => have := HK.out; omega
          case rel => exact ⟨x + 1, by first | rfl | rw [HX.out], by rw [HF.out], ⟨by have := HK.out; omega⟩, ⟨by repeat (first | (with_reducible exact HB.out) | apply pw_below_drewN | apply below_drew)⟩⟩
        · have c1b : (Go.bits .and .u16 s (IntKind.u16.wrap (2 ^ x)) != 0) = true := bne_iff_ne.mpr c1
          have c1c : (Go.bits .and .u16 s (IntKind.u16.wrap (2 ^ x)) == 0) = false := beq_eq_false_iff_ne.mpr c1
          by_cases c2 : Go.bits .and .u16 (rd m x) s = 0
          · have HF : Aside0 (freeB m s (x + 1) = Go.bits .or .u16 (freeB m s x) (bitN x)) := ⟨by simp only [freeB]; rw [if_pos ⟨c1, c2⟩]⟩
            have c2b : (Go.bits .and .u16 (rd m x) s == 0) = true := beq_iff_eq.mpr c2
            have c2c : (Go.bits .and .u16 (rd m x) s != 0) = false := bne_eq_false_iff_eq.mpr c2
            clear c1 c2
            go_wp2
            go_roundg (gk - 1)
            case measure => have := HK.out; omega
            case rel => exact ⟨x + 1, by first | rfl | rw [HX.out], congrArg (Value.int .u16) HF.out.symm, ⟨by have := HK.out; omega⟩, ⟨by repeat (first | (with_reducible exact HB.out) | apply pw_below_drewN | apply below_drew)⟩⟩
          · have HF : Aside0 (freeB m s (x + 1) = freeB m s x) := ⟨by simp only [freeB]; rw [if_neg (fun g => c2 g.2)]⟩
            have c2b : (Go.bits .and .u16 (rd m x) s == 0) = false := beq_eq_false_iff_ne.mpr c2
            have c2c : (Go.bits .and .u16 (rd m x) s != 0) = true := bne_iff_ne.mpr c2
            clear c1 c2
            go_wp2
            go_roundg (gk - 1)
            case measure => have := HK.out; omega
            case rel => exact ⟨x + 1, by first | rfl | rw [HX.out], by rw [HF.out], ⟨by have := HK.out; omega⟩, ⟨by repeat (first | (with_reducible exact HB.out) | apply pw_below_drewN | apply below_drew)⟩⟩
      · have c3b : decide ((x : Int) < 12) = false := decide_eq_false c3
        have hx : x = 12 := by have := HK.out; omega
        subst hx
        clear c3
        go_wp2
        go_ret
        exact ⟨by first | rfl | (simp; done), HB.out⟩
  · rw [if_neg hh] at h; cases h

/-! ### spec_l03Locked: function 73: this session's own text -/
/-- What can never be taken up of a set: round by round. -/
def lockB (m : List Int) : Nat → Int → Option Int
  | 0, _ => none
  | k + 1, s => if freeB m s 12 = 0 then some s else lockB m k (Go.bits .andNot .u16 s (freeB m s 12))
def spec_l03Locked.f (k : Nat) (m : List Int) (s : Int) : Option Int := if m.length = 12 then lockB m k s else none
theorem lockB_mono (m : List Int) : ∀ (k : Nat) (s : Int), LeO (lockB m k s) (lockB m (k + 1) s) := by
  intro k
  induction k with
  | zero => intro s; exact LeO.none _
  | succ k ih =>
    intro s
    rw [lockB]
    conv => rhs; rw [lockB]
    split
    · exact LeO.refl _
    · exact ih _
theorem spec_l03Locked.mono : ∀ m s k, LeO (spec_l03Locked.f k m s) (spec_l03Locked.f (k + 1) m s) := by
  intro m s k
  unfold spec_l03Locked.f
  split
  · exact lockB_mono m k s
  · exact LeO.none _
set_option maxHeartbeats 4000000 in
set_option maxRecDepth 100000 in
theorem spec_l03Locked.calls (k : Nat) (p : Nat) (m : List Int) (s r : Int) (w : World) (hb : w.heap[p]? = some (.cells (m.map (Value.int .u16)).toArray 59 (0, 0))) (h : spec_l03Locked.f k m s = some r) :
    Calls Try.prog 73 #[.pointer (some ⟨p, 0, none⟩), .int .u16 s] w fun e w' => e = .returned (.int .u16 r) ∧ Below w.heap.size w w' := by
  unfold spec_l03Locked.f at h
  by_cases hh : m.length = 12
  · rw [if_pos hh] at h
    have hfr : Aside0 (∀ W s, Below w.heap.size w W → Calls Try.prog 67 #[.pointer (some ⟨p, 0, none⟩), .int .u16 s] W fun e w' => e = .returned (.int .u16 (freeB m s 12)) ∧ Below W.heap.size W w') := ⟨fun W s hW => spec_l03Free.calls p m s _ W ((hW.block _ (blk_lt hb)).trans hb) (by unfold spec_l03Free.f; rw [if_pos hh])⟩
    have HB := Aside0.mk (Below.refl w.heap.size w)
    have H := Aside0.mk h
    clear hh hb h
    go_enter Try.func73, Try.ntmps73
    go_wp2
    go_loopg [1] k (fun gk v1 w' => ∃ x : Int, v1 = .int .u16 x ∧ Aside0 (lockB m gk x = some r) ∧ Aside0 (Below w.heap.size w w'))
    case atStart => exact ⟨s, rfl, H, HB⟩
    case round =>
      clear HB H
      obtain ⟨x, rfl, H, HB⟩ := hrel
      cases gk with
      | zero => exact absurd H.out (by simp [lockB])
      | succ gk =>
        have h := H.out
        clear H
        rw [lockB] at h
        obtain ⟨u, hu⟩ : ∃ u, u = freeB m x 12 := ⟨_, rfl⟩
        have hfx : Aside0 (∀ W, Below w.heap.size w W → Calls Try.prog 67 #[.pointer (some ⟨p, 0, none⟩), .int .u16 x] W fun e w' => e = .returned (.int .u16 u) ∧ Below W.heap.size W w') := ⟨fun W hW => by rw [hu]; exact hfr.out W x hW⟩
        rw [← hu] at h
        by_cases c1 : u = 0
        · rw [if_pos c1] at h
          obtain rfl := Option.some.inj h
          have c1b : (u == 0) = true := beq_iff_eq.mpr c1
          clear c1 hu h
          go_wp2_with (first | (go_at_call 67; refine (hfx.out _ HB.out).mono ?_; rintro e w2 ⟨rfl, hb2⟩; have HB2 := Aside0.mk (HB.out.trans (hb2.mono HB.out.size)); clear hb2))
          go_ret
          exact ⟨by first | rfl | (simp; done), HB2.out⟩
        · rw [if_neg c1] at h
          have c1b : (u == 0) = false := beq_eq_false_iff_ne.mpr c1
          have H := Aside0.mk h
          clear c1 hu h
          go_wp2_with (first | (go_at_call 67; refine (hfx.out _ HB.out).mono ?_; rintro e w2 ⟨rfl, hb2⟩; have HB2 := Aside0.mk (HB.out.trans (hb2.mono HB.out.size)); clear hb2))
          go_roundg gk
          case measure => omega
          case rel => exact ⟨_, rfl, H, HB2⟩
  · rw [if_neg hh] at h; cases h

/-! ### spec_l03Before: function 82 -/
mutual
def spec_l03Before.l0 : Nat → List Int → List Int → Int → Option (Bool)
  | 0, _, _, _ => none
  | k + 1, x0, x1, x5 => if x5 < (x0.length : Int) then (spec_l03Before.j1 k x0 x1 x5 (decide (x5 < (x1.length : Int)))) else (spec_l03Before.j1 k x0 x1 x5 false)
def spec_l03Before.j1 : Nat → List Int → List Int → Int → Bool → Option (Bool)
  | 0, _, _, _, _ => none
  | k + 1, x0, x1, x5, x15 => if x15 = true then (if 0 ≤ x5 then (if x5 < (x0.length : Int) then (if x5 < (x1.length : Int) then (if (rd x0 x5) = (rd x1 x5) then (spec_l03Before.l0 k x0 x1 (wrap64 (x5 + 1))) else (some (decide ((rd x0 x5) < (rd x1 x5))))) else (none)) else (none)) else (none)) else (some (decide ((x0.length : Int) < (x1.length : Int))))
end
def spec_l03Before.f (k : Nat) (l0 : List Int) (l1 : List Int) : Option (Bool) := spec_l03Before.l0 k l0 l1 0
theorem spec_l03Before.mono_l : ∀ k, (∀ y0 y1 y2, LeO (spec_l03Before.l0 k y0 y1 y2) (spec_l03Before.l0 (k + 1) y0 y1 y2)) ∧ (∀ y0 y1 y2 y3, LeO (spec_l03Before.j1 k y0 y1 y2 y3) (spec_l03Before.j1 (k + 1) y0 y1 y2 y3))
  | 0 => ⟨fun _ _ _ r h => by simp [spec_l03Before.l0] at h, fun _ _ _ _ r h => by simp [spec_l03Before.j1] at h⟩
  | k + 1 => by
    obtain ⟨ih0, ih1⟩ := spec_l03Before.mono_l k
    refine ⟨?_, ?_⟩
    · intro y0 y1 y2
      unfold spec_l03Before.l0
      repeat' first
      | (with_reducible exact ih0 _ _ _)
      | (with_reducible exact ih1 _ _ _ _)
      | (with_reducible exact LeO.refl _)
      | (with_reducible exact LeO.none _)
      | (with_reducible refine LeO.ite ?_ ?_)
      | (with_reducible refine LeO.bind ?_ (fun _ => ?_))
      | exact ih0 _ _ _
      | exact ih1 _ _ _ _
      | exact LeO.none _
      | refine LeO.ite ?_ ?_
      | refine LeO.bind ?_ (fun _ => ?_)
    · intro y0 y1 y2 y3
      unfold spec_l03Before.j1
      repeat' first
      | (with_reducible exact ih0 _ _ _)
      | (with_reducible exact ih1 _ _ _ _)
      | (with_reducible exact LeO.refl _)
      | (with_reducible exact LeO.none _)
      | (with_reducible refine LeO.ite ?_ ?_)
      | (with_reducible refine LeO.bind ?_ (fun _ => ?_))
      | exact ih0 _ _ _
      | exact ih1 _ _ _ _
      | exact LeO.none _
      | refine LeO.ite ?_ ?_
      | refine LeO.bind ?_ (fun _ => ?_)
theorem spec_l03Before.mono : ∀ a0 a1 k, LeO (spec_l03Before.f k a0 a1) (spec_l03Before.f (k + 1) a0 a1) := by
  intro a0 a1 k
  obtain ⟨ih0, ih1⟩ := spec_l03Before.mono_l k
  unfold spec_l03Before.f
  repeat' first
      | (with_reducible exact ih0 _ _ _)
      | (with_reducible exact ih1 _ _ _ _)
      | (with_reducible exact LeO.refl _)
      | (with_reducible exact LeO.none _)
      | (with_reducible refine LeO.ite ?_ ?_)
      | (with_reducible refine LeO.bind ?_ (fun _ => ?_))
      | exact ih0 _ _ _
      | exact ih1 _ _ _ _
      | exact LeO.none _
      | refine LeO.ite ?_ ?_
      | refine LeO.bind ?_ (fun _ => ?_)
set_option maxHeartbeats 8000000 in
set_option maxRecDepth 100000 in
theorem spec_l03Before.calls (k : Nat) (A0 : Option Addr) (c0 : Nat) (l0 : List Int) (A1 : Option Addr) (c1 : Nat) (l1 : List Int) (r : Bool) (w : World) (hr0 : Kd.C (Kd.int .i64) w A0 l0.length l0) (hc0 : l0.length ≤ c0) (hr1 : Kd.C (Kd.int .i64) w A1 l1.length l1) (hc1 : l1.length ≤ c1) (h : spec_l03Before.f k l0 l1 = some r) :
    Calls Try.prog 82 #[.slice A0 l0.length c0, .slice A1 l1.length c1] w fun e w' => e = .returned (.bool r) ∧ Drawn0 w w' := by
  have HR0 := Aside0.mk hr0
  have HC0 := Aside0.mk hc0
  clear hr0 hc0
  have HR1 := Aside0.mk hr1
  have HC1 := Aside0.mk hc1
  clear hr1 hc1
  have H : (spec_l03Before.l0 k l0 l1 0) = some r := h
  clear h
  have H' := Aside0.mk H
  clear H
  go_enter Try.func82, Try.ntmps82
  go_wp2
  repeat (go_quiet (fail); try go_wp2)
  go_loopg [5] k (fun kq v5 w' => ∃ (x5_1 : Int), v5 = .int .i64 x5_1 ∧ Aside0 (spec_l03Before.l0 kq l0 l1 x5_1 = some r) ∧ Aside0 (kq ≤ k) ∧ Drawn0 w w')
  case atStart => exact ⟨(0), (by first | rfl | (simp; done) | (simp [*]; done)), H', ⟨Nat.le_refl _⟩, by repeat (first | exact Drawn0.refl _ | apply Drawn0.step)⟩
  case round =>
    clear H'
    try clear c1
    try clear p2
    obtain ⟨x5_1, rfl, HA, HK1, ⟨m1, rfl⟩⟩ := hrel
    cases gk with
    | zero => exact absurd HA.out (by simp [spec_l03Before.l0])
    | succ k1 =>
      have H := HA.out
      clear HA
      simp only [spec_l03Before.l0] at H
      have HC3 := Aside0.mk H
      clear H
      go_upto_region 2 with (fail)
      repeat (go_quiet (fail); go_upto_region 2 with (fail))
      go_cut [15] (fun v15 wc => ∃ (kq : Nat) (x15_2 : Bool), v15 = .bool x15_2 ∧ Aside0 (spec_l03Before.j1 kq l0 l1 x5_1 x15_2 = some r) ∧ Aside0 (kq ≤ k1) ∧ Drawn0 w wc)
      case first =>
        have H := HC3.out
        clear HC3
        by_cases c4 : x5_1 < (l0.length : Int)
        · rw [if_pos c4] at H
          have c4b0 : decide (x5_1 < (l0.length : Int)) = true := decide_eq_true c4
          clear c4
          (first | rw [c4b0] | (simp only [i64_w, i32_w]; rw [c4b0]) | skip)
          have H' := Aside0.mk H
          clear H
          go_wp2
          repeat (go_quiet (fail); try go_wp2)
          go_meet
          case rel => exact ⟨_, (decide (x5_1 < (l1.length : Int))), (by first | rfl | (simp; done) | (simp [*]; done)), H', ⟨by have := HK1.out; first | omega | exact Nat.le_refl _⟩, by repeat (first | exact Drawn0.refl _ | apply Drawn0.step)⟩
        · rw [if_neg c4] at H
          have c4b0 : decide (x5_1 < (l0.length : Int)) = false := decide_eq_false c4
          clear c4
          (first | rw [c4b0] | (simp only [i64_w, i32_w]; rw [c4b0]) | skip)
          have H' := Aside0.mk H
          clear H
          go_wp2
          repeat (go_quiet (fail); try go_wp2)
          go_meet
          case rel => exact ⟨_, (false), (by first | rfl | (simp; done) | (simp [*]; done)), H', ⟨by have := HK1.out; first | omega | exact Nat.le_refl _⟩, by repeat (first | exact Drawn0.refl _ | apply Drawn0.step)⟩
      case rest =>
        clear HC3
        try clear c1
        try clear p2
        try clear c4
        try clear c4b0
        try clear p2
        obtain ⟨kq, x15_2, rfl, HA, HJ2, ⟨mc2, rfl⟩⟩ := hcut
        cases kq with
        | zero => exact absurd HA.out (by simp [spec_l03Before.j1])
        | succ kj2 =>
          have H := HA.out
          clear HA
          simp only [spec_l03Before.j1] at H
          by_cases c5 : x15_2 = true
          · subst c5
            have H1 : (if 0 ≤ x5_1 then (if x5_1 < (l0.length : Int) then (if x5_1 < (l1.length : Int) then (if (rd l0 x5_1) = (rd l1 x5_1) then (spec_l03Before.l0 kj2 l0 l1 (wrap64 (x5_1 + 1))) else (some (decide ((rd l0 x5_1) < (rd l1 x5_1))))) else (none)) else (none)) else (none)) = some r := by rw [if_pos rfl] at H; exact H
            clear H
            have H := H1
            clear H1
            by_cases c6 : 0 ≤ x5_1
            · rw [if_pos c6] at H
              have c6b0 : decide (0 ≤ x5_1) = true := decide_eq_true c6
              clear c6
              by_cases c7 : x5_1 < (l0.length : Int)
              · rw [if_pos c7] at H
                have c7b0 : decide (x5_1 < (l0.length : Int)) = true := decide_eq_true c7
                clear c7
                by_cases c8 : x5_1 < (l1.length : Int)
                · rw [if_pos c8] at H
                  have c8b0 : decide (x5_1 < (l1.length : Int)) = true := decide_eq_true c8
                  clear c8
                  by_cases c9 : (rd l0 x5_1) = (rd l1 x5_1)
                  · rw [if_pos c9] at H
                    have c9b0 : ((rd l0 x5_1) == (rd l1 x5_1)) = true := beq_iff_eq.mpr c9
                    have c9b1 : ((rd l0 x5_1) != (rd l1 x5_1)) = false := bne_eq_false_iff_eq.mpr c9
                    clear c9
                    have H' := Aside0.mk H
                    clear H
                    have p135 : 0 ≤ (x5_1 : Int) := of_decide_eq_true (by first | (with_reducible assumption) | assumption)
                    have q135 : x5_1 < (l0.length : Int) := of_decide_eq_true (by first | (with_reducible assumption) | assumption)
                    obtain ⟨ad135, e135, hx135_0⟩ := Kd.at_int HR0.out x5_1 p135 q135
                    cases e135
                    replace p135 := eq_true p135
                    replace q135 := eq_true q135
                    have p136 : 0 ≤ (x5_1 : Int) := of_decide_eq_true (by first | (with_reducible assumption) | assumption)
                    have q136 : x5_1 < (l1.length : Int) := of_decide_eq_true (by first | (with_reducible assumption) | assumption)
                    obtain ⟨ad136, e136, hx136_0⟩ := Kd.at_int HR1.out x5_1 p136 q136
                    cases e136
                    replace p136 := eq_true p136
                    replace q136 := eq_true q136
                    go_wp2
                    repeat (go_quiet (fail); try go_wp2)
                    go_roundg kj2
                    case measure => have := HK1.out; have := HJ2.out; omega
                    case rel => exact ⟨(wrap64 (x5_1 + 1)), (by first | rfl | (simp; done) | (simp [*]; done)), H', ⟨by have := HK1.out; have := HJ2.out; omega⟩, by repeat (first | exact Drawn0.refl _ | apply Drawn0.step)⟩
                  · rw [if_neg c9] at H
                    have c9b0 : ((rd l0 x5_1) == (rd l1 x5_1)) = false := beq_eq_false_iff_ne.mpr c9
                    have c9b1 : ((rd l0 x5_1) != (rd l1 x5_1)) = true := bne_iff_ne.mpr c9
                    obtain rfl := Option.some.inj H
                    have p135 : 0 ≤ (x5_1 : Int) := of_decide_eq_true (by first | (with_reducible assumption) | assumption)
                    have q135 : x5_1 < (l0.length : Int) := of_decide_eq_true (by first | (with_reducible assumption) | assumption)
                    obtain ⟨ad135, e135, hx135_0⟩ := Kd.at_int HR0.out x5_1 p135 q135
                    cases e135
                    replace p135 := eq_true p135
                    replace q135 := eq_true q135
                    have p136 : 0 ≤ (x5_1 : Int) := of_decide_eq_true (by first | (with_reducible assumption) | assumption)
                    have q136 : x5_1 < (l1.length : Int) := of_decide_eq_true (by first | (with_reducible assumption) | assumption)
                    obtain ⟨ad136, e136, hx136_0⟩ := Kd.at_int HR1.out x5_1 p136 q136
                    cases e136
                    replace p136 := eq_true p136
                    replace q136 := eq_true q136
                    have p137 : 0 ≤ (x5_1 : Int) := of_decide_eq_true (by first | (with_reducible assumption) | assumption)
                    have q137 : x5_1 < (l0.length : Int) := of_decide_eq_true (by first | (with_reducible assumption) | assumption)
                    obtain ⟨ad137, e137, hx137_0⟩ := Kd.at_int HR0.out x5_1 p137 q137
                    obtain rfl : ad135 = ad137 := (by injection e137)
                    replace p137 := eq_true p137
                    replace q137 := eq_true q137
                    have p138 : 0 ≤ (x5_1 : Int) := of_decide_eq_true (by first | (with_reducible assumption) | assumption)
                    have q138 : x5_1 < (l1.length : Int) := of_decide_eq_true (by first | (with_reducible assumption) | assumption)
                    obtain ⟨ad138, e138, hx138_0⟩ := Kd.at_int HR1.out x5_1 p138 q138
                    obtain rfl : ad136 = ad138 := (by injection e138)
                    replace p138 := eq_true p138
                    replace q138 := eq_true q138
                    go_wp2
                    repeat (go_quiet (fail); try go_wp2)
                    go_ret
                    exact ⟨by first | rfl | (simp; done) | (simp [*]; done), by repeat (first | exact Drawn0.refl _ | apply Drawn0.step)⟩
                · rw [if_neg c8] at H
                  exact absurd H (by simp)
              · rw [if_neg c7] at H
                exact absurd H (by simp)
            · rw [if_neg c6] at H
              exact absurd H (by simp)
          · replace c5 := Bool.eq_false_iff.mpr c5
            subst c5
            have H1 : (some (decide ((l0.length : Int) < (l1.length : Int)))) = some r := by rw [if_neg (show ¬ (false = true) by decide)] at H; exact H
            clear H
            have H := H1
            clear H1
            obtain rfl := Option.some.inj H
            go_wp2
            repeat (go_quiet (fail); try go_wp2)
            go_ret
            exact ⟨by first | rfl | (simp; done) | (simp [*]; done), by repeat (first | exact Drawn0.refl _ | apply Drawn0.step)⟩

end Go.Proofs.Ytjcdgimldhodiaa.PFnExactFewestSlipped
