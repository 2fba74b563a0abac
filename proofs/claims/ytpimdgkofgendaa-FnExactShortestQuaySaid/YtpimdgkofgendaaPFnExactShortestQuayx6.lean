/- Printed by this session's plus.py out of the translation, some functions' texts being this session's own. -/
import Derived.Test.YtpimdgkofgendaaPFnExactShortestQuayx0
namespace Go.Proofs.Ytpimdgkofgendaa.PFnExactShortestQuay
open Go.RowKit Go.Proofs.YtpimdgkofgendaaW.PrintWords Go.Proofs.YtpimdgkofgendaaW.PrintLast Go.Proofs.YtpimdgkofgendaaW.PrintMore
attribute [local go_sem] max2_int min2_int max_two min_two max_three min_three max_four min_four   -- for this text's walks alone
set_option linter.unusedVariables false
set_option linter.unusedSimpArgs false

/-! ### impl_raftsOf: function 95: this session's own text -/
/-- W' is W but for the blocks that S tells, and for new ones. -/
structure Only (S : Nat → Prop) (W W' : World) : Prop where
  os : W'.os = W.os
  tape : W'.tape = W.tape
  output : W'.output = W.output
  size : W.heap.size ≤ W'.heap.size
  block : ∀ b, b < W.heap.size → ¬ S b → W'.heap[b]? = W.heap[b]?
theorem Only.refl (S : Nat → Prop) (W : World) : Only S W W := ⟨rfl, rfl, rfl, Nat.le_refl _, fun _ _ _ => rfl⟩
theorem Only.trans {S : Nat → Prop} {a b c : World} (h : Only S a b) (k : Only S b c) : Only S a c :=
  ⟨k.os.trans h.os, k.tape.trans h.tape, k.output.trans h.output, Nat.le_trans h.size k.size, fun i hi hs => (k.block i (Nat.lt_of_lt_of_le hi h.size) hs).trans (h.block i hi hs)⟩
theorem Only.mono {S S' : Nat → Prop} {a b : World} (h : Only S a b) (hs : ∀ i, S i → S' i) : Only S' a b := ⟨h.os, h.tape, h.output, h.size, fun i hi hn => h.block i hi (fun g => hn (hs i g))⟩
theorem Only.of_below {S : Nat → Prop} {a b : World} (h : Below a.heap.size a b) : Only S a b := ⟨h.os, h.tape, h.output, h.size, fun i hi _ => h.block i hi⟩
theorem Only.set {S : Nat → Prop} {a b : World} (h : Only S a b) {g : Nat} (hg : S g) (j : Nat) (v : Value) : Only S a (b.setCell ⟨g, j, none⟩ v) :=
  h.trans ⟨rfl, rfl, rfl, by simp [World.setCell], fun i hi hn => Below.heap_setCell _ _ _ _ (fun e => hn (by subst e; exact hg))⟩
theorem Only.alloc {S : Nat → Prop} {a b : World} (h : Only S a b) (o : Obj) : Only S a (b.alloc o) := h.trans (Only.of_below ((Below.refl _ _).alloc (Nat.le_refl _) o))
theorem Only.drewN {S : Nat → Prop} {a b : World} (h : Only S a b) (n : Nat) : Only S a (b.drewN n) := h.trans (Only.of_below (pw_below_drewN (Below.refl _ _) n))
theorem Only.drew {S : Nat → Prop} {a b : World} (h : Only S a b) : Only S a b.drew := h.trans (Only.of_below (below_drew (Below.refl _ _)))
theorem Only.blk {S : Nat → Prop} {a b : World} (h : Only S a b) {g : Nat} {o : Obj} (ho : a.heap[g]? = some o) (hg : ¬ S g) : b.heap[g]? = some o := (h.block g (blk_lt ho) hg).trans ho
theorem Only.below {S : Nat → Prop} {w a b : World} {B : Nat} (hb : Below B w a) (h : Only S a b) (hB : B ≤ a.heap.size) (hs : ∀ i, S i → B ≤ i) : Below B w b :=
  hb.trans ⟨h.os, h.tape, h.output, h.size, fun i hi => h.block i (by omega) (fun g => by have := hs i g; omega)⟩
theorem Only.to_below {S : Nat → Prop} {a b : World} (h : Only S a b) (hs : ∀ i, ¬ S i) : Below a.heap.size a b := ⟨h.os, h.tape, h.output, h.size, fun i hi => h.block i hi (hs i)⟩

theorem of_drop {α : Type} {xs : List α} {p : Nat} {x : α} {rest : List α} (h : xs.drop p = x :: rest) : p < xs.length ∧ xs.drop (p + 1) = rest ∧ ∀ d, xs.getD ((p : Int)).toNat d = x := by
  have hp : p < xs.length := by
    rcases Nat.lt_or_ge p xs.length with h1 | h1
    · exact h1
    · rw [List.drop_eq_nil_of_le h1] at h; cases h
  rw [List.drop_eq_getElem_cons hp] at h
  injection h with h1 h2
  refine ⟨hp, h2, fun d => ?_⟩
  rw [Int.toNat_natCast, List.getD_eq_getElem?_getD, List.getElem?_eq_getElem hp]
  exact h1

theorem of_drop_nil {α : Type} {xs : List α} {p : Nat} (h : xs.drop p = []) : xs.length ≤ p := List.drop_eq_nil_iff.1 h

theorem step64 {p n : Nat} (h : p < n) (hn : n ≤ 1152921504606846976) : wrap64 ((p : Int) + 1) = ((p + 1 : Nat) : Int) := by
  unfold wrap64
  omega

theorem take_set_at {α : Type} (ys : List α) (p : Nat) (v : α) (h : p < ys.length) : (ys.set p v).take (p + 1) = ys.take p ++ [v] := by
  rw [List.take_succ_eq_append_getElem (by simpa using h), List.take_set_of_le (Nat.le_refl _)]
  simp

theorem i8_in {a : Int} (h : (Lit.int .i8 a).wf = true) : -128 ≤ a ∧ a ≤ 127 := by
  simp [Lit.wf, IntKind.min, IntKind.max, IntKind.signed, IntKind.bits] at h
  omega

theorem i64_in {a : Int} (h : (Lit.int .i64 a).wf = true) : -9223372036854775808 ≤ a ∧ a ≤ 9223372036854775807 := by
  simp [Lit.wf, IntKind.min, IntKind.max, IntKind.signed, IntKind.bits] at h
  omega

theorem w64_id {a : Int} (h : -9223372036854775808 ≤ a ∧ a ≤ 9223372036854775807) : wrap64 a = a := by
  unfold wrap64
  omega

theorem w8_cases (a : Int) : IntKind.i8.wrap a = if a % 256 ≥ 128 then a % 256 - 256 else a % 256 := by
  simp [IntKind.wrap, IntKind.signed, IntKind.bits]

theorem some_dec {p q : Prop} [Decidable p] [Decidable q] (h : p ↔ q) : some (decide p) = some (decide q) := by rw [decide_eq_decide.2 h]
theorem some_decF {q : Prop} [Decidable q] (h : ¬ q) : some false = some (decide q) := by rw [decide_eq_false h]
theorem some_decT {q : Prop} [Decidable q] (h : q) : some true = some (decide q) := by rw [decide_eq_true h]

/-- A hull that is valid. -/
def vh (x : S59) : Bool := decide (1 ≤ x.f0 ∧ x.f0 ≤ 40 ∧ 1 ≤ x.f1 ∧ x.f1 ≤ 100 ∧ 1 ≤ x.f2 ∧ x.f2 ≤ 20)
def In8 (x : S59) : Prop := (-128 ≤ x.f0 ∧ x.f0 ≤ 127) ∧ (-128 ≤ x.f1 ∧ x.f1 ≤ 127) ∧ (-128 ≤ x.f2 ∧ x.f2 ≤ 127)

theorem zip_snoc {α β : Type} : ∀ (l : List α) (r : List β) (i : β) (h : r.length < l.length), l.zip (r ++ [i]) = l.zip r ++ [(l[r.length], i)]
  | [], r, i, h => absurd h (by simp)
  | x :: l, [], i, _ => by simp
  | x :: l, y :: r, i, h => by
    have := zip_snoc l r i (by simpa using h)
    simp [this]
/-- The hulls of a raft. -/
def withH (l : List S59) (r : List Int) (k : Int) : List S59 := ((l.zip r).filter (fun q => q.2 == k)).map (fun q => q.1)
theorem withH_snoc (l : List S59) (r : List Int) (i k : Int) (h : r.length < l.length) : withH l (r ++ [i]) k = withH l r k ++ (if i = k then [l[r.length]] else []) := by
  unfold withH
  rw [zip_snoc l r i h]
  by_cases hk : i = k
  · simp [hk]
  · simp [hk]
theorem withH_sub {l : List S59} {r : List Int} {k : Int} {x : S59} (h : x ∈ withH l r k) : x ∈ l := by
  unfold withH at h
  obtain ⟨q, hq, rfl⟩ := List.mem_map.1 h
  exact (List.of_mem_zip (List.mem_filter.1 hq).1).1
theorem withH_length (l : List S59) (r : List Int) (k : Int) : (withH l r k).length ≤ r.length := by
  unfold withH
  rw [List.length_map]
  refine Nat.le_trans (List.length_filter_le _ _) ?_
  rw [List.length_zip]
  omega

/-- An append of one element to a row of the call's own, as one step of a region that draws its order. -/
theorem step_append_own {P : Program} {ops : Array Oper} {o : Oper} {a : Act} {Q : Exit → Act → World → Prop} {K : Act → World → Prop} {E : Prop} {α : Type} {W w : World} (d : Kd α) (base : Nat)
    (hw : Region.wanted o (yielded ops a.tmps) = true) (s x : Operand) (t e : TypeId) (hop : o.op = .call { callee := .builtin .append, args := #[s, x], argTypes := #[t, t] }) (z : Value) (bytes : Nat)
    (ht : P.underlying t = some (.slice e)) (hinfo : (P.info? e).map (fun i => (i.zero, i.size, i.bytes)) = some (some z, d.sz, bytes)) (hz : z.cells.size = d.sz) (hs0 : 0 < d.sz) (hb0 : 0 < bytes)
    (v : Value) (xs : List α) (p : α) (cs : List Value) (ok okp : Nat → Prop) (hwd : w = W.alloc (.cells cs.toArray e)) (hs : a.eval s = v) (hx : a.eval x = .slice (some ⟨W.heap.size, 0, none⟩) 1 1) (hp : d.M W base okp p cs) (hokp : ∀ k, okp k → ok k ∧ some k ≠ v.ownBlock) (hfresh : ∀ k, W.heap.size ≤ k → ok k)
    (HO : d.R e W base ok v xs) (hbase : base ≤ W.heap.size) (hl : (xs.length + 1) * bytes ≤ 140737488355328)
    (h : ∀ v1 w1, d.R e w1 base ok v1 (xs ++ [p]) → Below base W w1 → W.grownBy w1 v.ownBlock → (v1.ownBlock = v.ownBlock ∨ ∃ b, v1.ownBlock = some b ∧ W.heap.size ≤ b) → K (a.put o.dst v1) w1) :
    if Region.wanted o (yielded ops a.tmps) = true then Oper.wp P o a w K Q else E := by
  subst hwd
  have := Kd.R_append_step (Kc := K) (P := P) (Q := Q) d (w0 := W) base hw s x t e z bytes hop ht hinfo hz hs0 hb0 v xs p cs ok okp hs hx hp hokp hfresh HO (Below.refl _ _) hbase hl h
  rw [if_pos hw] at this ⊢
  exact this

theorem any_R59 {W : World} {B : Nat} {ok ok' : Nat → Prop} {v : Value} {xs : List S59} (h : k59.R 59 W B ok v xs) (hk : ∀ k, v.ownBlock = some k → ok' k) : k59.R 59 W B ok' v xs := by
  obtain ⟨_, inner, ho, hr⟩ := h
  exact ⟨hk, inner, ho, hr.imp_ (fun x cs hx => by rw [k59_openM hx]; exact k59_mkM _ _ _ _)⟩
/-- The rafts in memory: an array of seven rows of the call's own. -/
structure Rafts (O B : Nat) (W : World) (vs : List Value) (xss : Nat → List S59) : Prop where
  len : vs.length = 7
  box : W.heap[O]? = some (.cells vs.toArray 106 (0, 0))
  lt : O < B
  own : ∀ j, j < 7 → k59.R 59 W B (fun k => (vs.getD j undef).ownBlock = some k) (vs.getD j undef) (xss j)
  ne : ∀ i j, i < 7 → j < 7 → i ≠ j → ∀ k, (vs.getD i undef).ownBlock = some k → (vs.getD j undef).ownBlock ≠ some k
theorem Rafts.drewN {O B : Nat} {W : World} {vs : List Value} {xss : Nat → List S59} (h : Rafts O B W vs xss) (n : Nat) : Rafts O B (W.drewN n) vs xss :=
  ⟨h.len, blk_drewN h.box n, h.lt, fun j hj => Kd.R_drewN (h.own j hj) n, h.ne⟩
theorem Rafts.drew {O B : Nat} {W : World} {vs : List Value} {xss : Nat → List S59} (h : Rafts O B W vs xss) : Rafts O B W.drew vs xss :=
  ⟨h.len, blk_drew h.box, h.lt, fun j hj => Kd.R_drew (h.own j hj), h.ne⟩
theorem Rafts.box1 {O B : Nat} {W w1 : World} {vs : List Value} {xss : Nat → List S59} (h : Rafts O B W vs xss) {n : Nat} (hn : n < 7) (hg : W.grownBy w1 (vs.getD n undef).ownBlock) : w1.heap[O]? = some (.cells vs.toArray 106 (0, 0)) := by
  rw [← h.box]
  exact hg.block O (blk_lt h.box) (fun e => by have := Kd.R_base (h.own n hn) O e.symm; have := h.lt; omega)
theorem vs_cell {W : World} {O t n : Nat} {vs : List Value} (h : W.heap[O]? = some (.cells vs.toArray t (0, 0))) (hn : n < vs.length) : W.cell? ⟨O, n, none⟩ = some (vs.getD n undef) := by
  rw [blk_cell h, List.getD_eq_getElem?_getD]
  simp [List.getElem?_eq_getElem hn]
theorem Rafts.put {O B : Nat} {W w1 : World} {vs : List Value} {xss : Nat → List S59} (h : Rafts O B W vs xss) {n : Nat} (hn : n < 7) {v1 : Value} {ys : List S59} {ok : Nat → Prop} (hv : k59.R 59 w1 B ok v1 ys)
    (hg : W.grownBy w1 (vs.getD n undef).ownBlock) (hat : v1.ownBlock = (vs.getD n undef).ownBlock ∨ ∃ b, v1.ownBlock = some b ∧ W.heap.size ≤ b) : Rafts O B (w1.setCell ⟨O, n, none⟩ v1) (vs.set n v1) (fun j => if j = n then ys else xss j) := by
  have hO := h.box1 hn hg
  have gs : ∀ j, (vs.set n v1).getD j undef = if j = n then v1 else vs.getD j undef := fun j => by
    rw [List.getD_eq_getElem?_getD, List.getElem?_set]
    by_cases e : n = j
    · rw [if_pos e, if_pos (by rw [h.len]; exact hn), if_pos e.symm]; rfl
    · rw [if_neg e, if_neg (fun g => e g.symm), List.getD_eq_getElem?_getD]
  refine ⟨by simpa using h.len, ?_, h.lt, fun j hj => ?_, fun i j hi hj hij k hk => ?_⟩
  · have := blk_set hO n v1
    simpa using this
  · rw [gs]
    by_cases e : j = n
    · simp only [if_pos e]
      exact any_R59 (Kd.R_mono (Kd.R_far (Kd.R_bound hv) (fun k hk g => by have := hk.2.1; have := h.lt; simp at g; omega) v1) (ok' := fun _ => True) (fun _ _ => trivial)) (fun k hk => hk)
    · simp only [if_neg e]
      have := Kd.R_grown (h.own j hj) hg (fun k hk g => h.ne j n hj hn e k hk g.symm)
      exact any_R59 (Kd.R_mono (Kd.R_far (Kd.R_bound this) (fun k hk g => by have := hk.2.1; have := h.lt; simp at g; omega) v1) (ok' := fun _ => True) (fun _ _ => trivial)) (fun k hk => hk)
  · rw [gs] at hk ⊢
    by_cases e : i = n
    · rw [if_pos e] at hk
      rw [if_neg (fun g => hij (e.trans g.symm))]
      rcases hat with hat | ⟨b, hb, hle⟩
      · exact h.ne n j hn hj (fun g => hij (e.trans g)) k (hat ▸ hk)
      · intro g
        have := Kd.R_lt (h.own j hj) k g
        rw [hb] at hk
        injection hk with hk
        omega
    · rw [if_neg e] at hk
      by_cases e2 : j = n
      · rw [if_pos e2]
        rcases hat with hat | ⟨b, hb, hle⟩
        · rw [hat]; exact h.ne i n hi hn e k hk
        · intro g
          have := Kd.R_lt (h.own i hi) k hk
          rw [hb] at g
          injection g with g
          omega
      · rw [if_neg e2]
        exact h.ne i j hi hj hij k hk
theorem Rafts.zero (w : World) (O B : Nat) (hO : w.heap[O]? = some (.cells #[.slice none 0 0, .slice none 0 0, .slice none 0 0, .slice none 0 0, .slice none 0 0, .slice none 0 0, .slice none 0 0] 106 (0, 0))) (hB : O < B) : Rafts O B w (List.replicate 7 (.slice none 0 0)) (fun _ => []) := by
  have g : ∀ j, j < 7 → (List.replicate 7 (Value.slice none 0 0)).getD j undef = .slice none 0 0 := fun j hj => by
    rw [List.getD_eq_getElem?_getD, List.getElem?_replicate, if_pos hj]; rfl
  exact ⟨by simp, hO, hB, fun j hj => by rw [g j hj]; exact Kd.R_nil _ _ _ _ _, fun i j hi hj _ k hk => by rw [g i hi] at hk; simp [Value.ownBlock] at hk⟩
def impl_raftsOf.f (l0 : List S59) (l1 : List Int) : Option Bool := if l1.length ≤ l0.length ∧ l0.length ≤ 1048576 ∧ ∀ x ∈ l1, 0 ≤ x ∧ x < 7 then some true else none
set_option maxHeartbeats 4000000 in
set_option maxRecDepth 100000 in
theorem impl_raftsOf.calls (A0 : Option Addr) (c0 : Nat) (l0 : List (S59)) (A1 : Option Addr) (c1 : Nat) (l1 : List Int) (w : World) (hr0 : Kd.C k59 w A0 l0.length l0) (hc0 : l0.length ≤ c0) (hr1 : Kd.C (Kd.int .i64) w A1 l1.length l1) (hc1 : l1.length ≤ c1) (h : impl_raftsOf.f l0 l1 = some true) :
    Calls Try.prog 95 #[.slice A0 l0.length c0, .slice A1 l1.length c1] w fun e w' => ∃ vs : List Value, e = .returned (.agg vs.toArray) ∧ vs.length = 7 ∧ (∀ j, j < 7 → ∃ A c, vs.getD j undef = .slice A (withH l0 l1 j).length c ∧ (withH l0 l1 j).length ≤ c ∧ k59.C w' A (withH l0 l1 j).length (withH l0 l1 j)) ∧ Below w.heap.size w w' := by
  unfold impl_raftsOf.f at h
  by_cases hh : l1.length ≤ l0.length ∧ l0.length ≤ 1048576 ∧ ∀ x ∈ l1, 0 ≤ x ∧ x < 7
  · clear h
    have HH := Aside0.mk hh
    have HR0 := Aside0.mk hr0
    have HR1 := Aside0.mk hr1
    have HC0 := Aside0.mk hc0
    have HC1 := Aside0.mk hc1
    have HB := Aside0.mk (Below.refl w.heap.size w)
    clear hh hr0 hr1 hc0 hc1
    go_enter Try.func95, Try.ntmps95
    go_wp2
    go_loopg [11] l1.length (fun gk v11 w' => ∃ (x : Nat) (vs : List Value), v11 = .int .i64 x ∧ Aside0 (x + gk = l1.length) ∧ Aside0 (Rafts (w.heap.size + 1) (w.heap.size + 2) w' vs (fun j => withH l0 (l1.take x) j)) ∧ Aside0 (w'.heap[w.heap.size]? = some (.cells #[.slice none 0 0, .slice none 0 0, .slice none 0 0, .slice none 0 0, .slice none 0 0, .slice none 0 0, .slice none 0 0] 106 (0, 0))) ∧ Aside0 (Below w.heap.size w w'))
    case atStart =>
      have z0 : (fun j : Nat => withH l0 (l1.take 0) j) = fun _ => [] := by funext j; simp [withH]
      have s1 : (w.alloc (.cells #[.slice none 0 0, .slice none 0 0, .slice none 0 0, .slice none 0 0, .slice none 0 0, .slice none 0 0, .slice none 0 0] 106)).heap.size = w.heap.size + 1 := by simp
      have b1 := blk_new (w.alloc (.cells #[.slice none 0 0, .slice none 0 0, .slice none 0 0, .slice none 0 0, .slice none 0 0, .slice none 0 0, .slice none 0 0] 106)) (.cells #[.slice none 0 0, .slice none 0 0, .slice none 0 0, .slice none 0 0, .slice none 0 0, .slice none 0 0, .slice none 0 0] 106)
      rw [s1] at b1
      exact ⟨0, _, rfl, ⟨by omega⟩, ⟨by rw [z0]; exact Rafts.zero _ _ _ b1 (by omega)⟩, ⟨blk_alloc (blk_new w _) _⟩, ⟨below_alloc (below_alloc HB.out _) _⟩⟩
    case round =>
      clear HB
      obtain ⟨x, vs, rfl, HK, HS, HZ, HB⟩ := hrel
      by_cases c3 : (x : Int) < (l1.length : Int)
      · have p0 : 0 ≤ (x : Int) := by omega
        have p1 : (x : Int) < (l0.length : Int) := by have := HH.out.1; omega
        have hxn : x < l1.length := by omega
        obtain ⟨ad0, e0, hx0_0, hx0_1, hx0_2⟩ := at_T59 HR0.out x p0 p1
        cases e0
        obtain ⟨ad1, e1, hx1_0⟩ := Kd.at_int HR1.out x p0 c3
        cases e1
        replace hx0_0 := (HB.out.cell (World.block_lt_of_cell? w _ hx0_0)).trans hx0_0
        replace hx0_1 := (HB.out.cell (World.block_lt_of_cell? w _ hx0_1)).trans hx0_1
        replace hx0_2 := (HB.out.cell (World.block_lt_of_cell? w _ hx0_2)).trans hx0_2
        replace hx1_0 := (HB.out.cell (World.block_lt_of_cell? w _ hx1_0)).trans hx1_0
        simp only [Int.toNat_natCast] at hx0_0 hx0_1 hx0_2 hx1_0
        have hrd : rd l1 x = l1[x] := by rw [rd, Int.toNat_natCast, List.getD_eq_getElem?_getD, List.getElem?_eq_getElem hxn]; rfl
        have hn := HH.out.2.2 l1[x] (List.getElem_mem hxn)
        obtain ⟨n, hnn⟩ : ∃ n : Nat, l1[x] = (n : Int) := ⟨l1[x].toNat, by omega⟩
        rw [hrd, hnn] at hx1_0
        have HN : Aside0 (n < 7 ∧ l1[x] = (n : Int)) := ⟨by omega, hnn⟩
        have q0 : decide (0 ≤ (n : Int)) = true := decide_eq_true (by omega)
        have q1 : (n : Int) < 7 := by have := HN.out.1; omega
        obtain ⟨vn, hvn⟩ : ∃ v, v = vs.getD n undef := ⟨_, rfl⟩
        have hs : wr.cell? ⟨w.heap.size + 1, n, none⟩ = some vn := by
          rw [blk_cell HS.out.box, hvn, List.getD_eq_getElem?_getD]
          have : n < vs.length := by rw [HS.out.len]; exact HN.out.1
          simp [List.getElem?_eq_getElem this]
        have hs2 : ∀ o : Obj, (wr.alloc o).cell? ⟨w.heap.size + 1, n, none⟩ = some vn := fun o => by
          rw [hvn]
          exact vs_cell (blk_alloc HS.out.box o) (by rw [HS.out.len]; exact HN.out.1)
        have HV := Aside0.mk hvn
        have HLT : Aside0 (w.heap.size + 2 ≤ wr.heap.size) := ⟨by have := blk_lt HS.out.box; omega⟩
        have HX : Aside0 (wrap64 ((x : Int) + 1) = ((x + 1 : Nat) : Int)) := ⟨by have := HH.out; unfold wrap64; omega⟩
        have hu := Try.underlying59
        have c3b : decide ((x : Int) < (l1.length : Int)) = true := decide_eq_true c3
        have c3c : decide ((x : Int) < (l0.length : Int)) = true := decide_eq_true p1
        have p0b : decide (0 ≤ (x : Int)) = true := decide_eq_true p0
        clear c3 p0 hrd hn hnn hvn
        go_wp2
        trace_state
        go_region_law (first | (refine step_append_own (W := World.drew wr) k59 (w.heap.size + 2) (by simp [Region.wanted, yielded]) (.tmp 19) (.tmp 24) 26 59 rfl (.agg #[.int .i8 0, .int .i8 0, .int .i8 0]) 3 Try.underlying26 info59 rfl (by decide) (by omega) vn (withH l0 (l1.take x) n) (rd_T59 l0 x) [.int .i8 (rd_T59 l0 x).f0, .int .i8 (rd_T59 l0 x).f1, .int .i8 (rd_T59 l0 x).f2] (fun k => vn.ownBlock = some k ∨ wr.heap.size ≤ k) (fun _ => False) rfl rfl rfl ?aP (fun _ hk => hk.elim) ?aF ?aO ?aS ?aL ?_; (case aP => exact k59_mkM _ _ _ _); (case aF => exact fun k hk => .inr hk); (case aO => rw [HV.out]; exact any_R59 (HS.out.drew.own n HN.out.1) (fun k hk => .inl hk)); (case aS => exact HLT.out); (case aL => have := withH_length l0 (l1.take x) n; have := HH.out; rw [List.length_take] at *; omega); intro v1 w1 ho hb hg hat; obtain ⟨A9, c9, rfl⟩ := Kd.R_slice ho; rw [List.length_append, List.length_singleton] at ho hat; have hO1 := HS.out.drew.box1 HN.out.1 (by rw [← HV.out]; exact hg); have hOc := vs_cell hO1 (by rw [HS.out.len]; exact HN.out.1); have hOf := blk_frozen hO1 n; have HA := Aside0.mk (And.intro ho (And.intro hb (And.intro hg hat))); clear ho hb hg hat hO1))
        all_goals go_wp2
        all_goals
          go_roundg (gk - 1)
          case measure => have := HK.out; omega
          case rel =>
            refine ⟨x + 1, vs.set n (.slice A9 ((withH l0 (l1.take x) n).length + 1) c9), by first | rfl | rw [HX.out], ⟨by have := HK.out; omega⟩, ⟨?_⟩, ⟨blk_far ((HA.out.2.1.block _ (by omega)).trans (blk_drew HZ.out)) (show w.heap.size ≠ w.heap.size + 1 by omega) _⟩, ⟨((below_drew HB.out).trans (HA.out.2.1.mono (by omega))).setCell (show w.heap.size ≤ w.heap.size + 1 by omega) _⟩⟩
            have hp := HS.out.drew.put HN.out.1 HA.out.1 (by rw [← HV.out]; exact HA.out.2.2.1) (by rw [← HV.out]; exact HA.out.2.2.2)
            have hf : (fun j : Nat => if j = n then withH l0 (l1.take x) n ++ [rd_T59 l0 x] else withH l0 (l1.take x) j) = fun j : Nat => withH l0 (l1.take (x + 1)) j := by
              funext j
              have hlt : (l1.take x).length = x := by rw [List.length_take]; omega
              have hr : rd_T59 l0 x = l0[x] := by rw [rd_T59, Int.toNat_natCast, List.getD_eq_getElem?_getD, List.getElem?_eq_getElem (by omega)]; rfl
              rw [List.take_succ_eq_append_getElem hxn, withH_snoc l0 (l1.take x) l1[x] j (by omega), HN.out.2]
              by_cases e : j = n
              · subst e
                rw [if_pos rfl, if_pos rfl, hr]
                simp only [hlt]
              · rw [if_neg e, if_neg (by omega), List.append_nil]
            rw [hf] at hp
            exact hp
      · have c3b : decide ((x : Int) < (l1.length : Int)) = false := decide_eq_false c3
        have hx : l1.take x = l1 := List.take_of_length_le (by omega)
        rw [hx] at HS
        obtain ⟨v0, v1, v2, v3, v4, v5, v6, rfl⟩ : ∃ v0 v1 v2 v3 v4 v5 v6, vs = [v0, v1, v2, v3, v4, v5, v6] := by
          match vs, HS.out.len with
          | [a, b, c, d, e, f, g], _ => exact ⟨a, b, c, d, e, f, g, rfl⟩
        have c3n : decide (x < l1.length) = false := decide_eq_false (by omega)
        obtain ⟨B0, d0, rfl⟩ : ∃ A c, v0 = .slice A (withH l0 l1 (0 : Int)).length c := Kd.R_slice (HS.out.own 0 (by omega))
        obtain ⟨B1, d1, rfl⟩ : ∃ A c, v1 = .slice A (withH l0 l1 (1 : Int)).length c := Kd.R_slice (HS.out.own 1 (by omega))
        obtain ⟨B2, d2, rfl⟩ : ∃ A c, v2 = .slice A (withH l0 l1 (2 : Int)).length c := Kd.R_slice (HS.out.own 2 (by omega))
        obtain ⟨B3, d3, rfl⟩ : ∃ A c, v3 = .slice A (withH l0 l1 (3 : Int)).length c := Kd.R_slice (HS.out.own 3 (by omega))
        obtain ⟨B4, d4, rfl⟩ : ∃ A c, v4 = .slice A (withH l0 l1 (4 : Int)).length c := Kd.R_slice (HS.out.own 4 (by omega))
        obtain ⟨B5, d5, rfl⟩ : ∃ A c, v5 = .slice A (withH l0 l1 (5 : Int)).length c := Kd.R_slice (HS.out.own 5 (by omega))
        obtain ⟨B6, d6, rfl⟩ : ∃ A c, v6 = .slice A (withH l0 l1 (6 : Int)).length c := Kd.R_slice (HS.out.own 6 (by omega))
        have hc0 : wr.cell? ⟨w.heap.size + 1, 0, none⟩ = some (.slice B0 (withH l0 l1 (0 : Int)).length d0) := blk_cell HS.out.box 0
        have hc1 : wr.cell? ⟨w.heap.size + 1, 1, none⟩ = some (.slice B1 (withH l0 l1 (1 : Int)).length d1) := blk_cell HS.out.box 1
        have hc2 : wr.cell? ⟨w.heap.size + 1, 2, none⟩ = some (.slice B2 (withH l0 l1 (2 : Int)).length d2) := blk_cell HS.out.box 2
        have hc3 : wr.cell? ⟨w.heap.size + 1, 3, none⟩ = some (.slice B3 (withH l0 l1 (3 : Int)).length d3) := blk_cell HS.out.box 3
        have hc4 : wr.cell? ⟨w.heap.size + 1, 4, none⟩ = some (.slice B4 (withH l0 l1 (4 : Int)).length d4) := blk_cell HS.out.box 4
        have hc5 : wr.cell? ⟨w.heap.size + 1, 5, none⟩ = some (.slice B5 (withH l0 l1 (5 : Int)).length d5) := blk_cell HS.out.box 5
        have hc6 : wr.cell? ⟨w.heap.size + 1, 6, none⟩ = some (.slice B6 (withH l0 l1 (6 : Int)).length d6) := blk_cell HS.out.box 6
        have hz0 : wr.cell? ⟨w.heap.size, 0, none⟩ = some (.slice none 0 0) := blk_cell HZ.out 0
        have hz1 : wr.cell? ⟨w.heap.size, 1, none⟩ = some (.slice none 0 0) := blk_cell HZ.out 1
        have hz2 : wr.cell? ⟨w.heap.size, 2, none⟩ = some (.slice none 0 0) := blk_cell HZ.out 2
        have hz3 : wr.cell? ⟨w.heap.size, 3, none⟩ = some (.slice none 0 0) := blk_cell HZ.out 3
        have hz4 : wr.cell? ⟨w.heap.size, 4, none⟩ = some (.slice none 0 0) := blk_cell HZ.out 4
        have hz5 : wr.cell? ⟨w.heap.size, 5, none⟩ = some (.slice none 0 0) := blk_cell HZ.out 5
        have hz6 : wr.cell? ⟨w.heap.size, 6, none⟩ = some (.slice none 0 0) := blk_cell HZ.out 6
        have hf : ∀ j, wr.frozen? ⟨w.heap.size, j, none⟩ = false := fun j => blk_frozen HZ.out j
        clear c3
        go_wp2
        have hw : (((((((wr.setCell ⟨w.heap.size, 0, none⟩ (.slice B0 (withH l0 l1 (0 : Int)).length d0)).setCell ⟨w.heap.size, 1, none⟩ (.slice B1 (withH l0 l1 (1 : Int)).length d1)).setCell ⟨w.heap.size, 2, none⟩ (.slice B2 (withH l0 l1 (2 : Int)).length d2)).setCell ⟨w.heap.size, 3, none⟩ (.slice B3 (withH l0 l1 (3 : Int)).length d3)).setCell ⟨w.heap.size, 4, none⟩ (.slice B4 (withH l0 l1 (4 : Int)).length d4)).setCell ⟨w.heap.size, 5, none⟩ (.slice B5 (withH l0 l1 (5 : Int)).length d5)).setCell ⟨w.heap.size, 6, none⟩ (.slice B6 (withH l0 l1 (6 : Int)).length d6)).heap[w.heap.size]? = some (.cells #[.slice B0 (withH l0 l1 (0 : Int)).length d0, .slice B1 (withH l0 l1 (1 : Int)).length d1, .slice B2 (withH l0 l1 (2 : Int)).length d2, .slice B3 (withH l0 l1 (3 : Int)).length d3, .slice B4 (withH l0 l1 (4 : Int)).length d4, .slice B5 (withH l0 l1 (5 : Int)).length d5, .slice B6 (withH l0 l1 (6 : Int)).length d6] 106 (0, 0)) := (blk_set (blk_set (blk_set (blk_set (blk_set (blk_set (blk_set HZ.out 0 _) 1 _) 2 _) 3 _) 4 _) 5 _) 6 _)
        have hO : Only (· = w.heap.size) wr (((((((wr.setCell ⟨w.heap.size, 0, none⟩ (.slice B0 (withH l0 l1 (0 : Int)).length d0)).setCell ⟨w.heap.size, 1, none⟩ (.slice B1 (withH l0 l1 (1 : Int)).length d1)).setCell ⟨w.heap.size, 2, none⟩ (.slice B2 (withH l0 l1 (2 : Int)).length d2)).setCell ⟨w.heap.size, 3, none⟩ (.slice B3 (withH l0 l1 (3 : Int)).length d3)).setCell ⟨w.heap.size, 4, none⟩ (.slice B4 (withH l0 l1 (4 : Int)).length d4)).setCell ⟨w.heap.size, 5, none⟩ (.slice B5 (withH l0 l1 (5 : Int)).length d5)).setCell ⟨w.heap.size, 6, none⟩ (.slice B6 (withH l0 l1 (6 : Int)).length d6)) := (Only.set (S := (· = w.heap.size)) (Only.set (S := (· = w.heap.size)) (Only.set (S := (· = w.heap.size)) (Only.set (S := (· = w.heap.size)) (Only.set (S := (· = w.heap.size)) (Only.set (S := (· = w.heap.size)) (Only.set (S := (· = w.heap.size)) (Only.refl (· = w.heap.size) wr) rfl 0 _) rfl 1 _) rfl 2 _) rfl 3 _) rfl 4 _) rfl 5 _) rfl 6 _)
        have hr0 := blk_cell hw 0
        have hr1 := blk_cell hw 1
        have hr2 := blk_cell hw 2
        have hr3 := blk_cell hw 3
        have hr4 := blk_cell hw 4
        have hr5 := blk_cell hw 5
        have hr6 := blk_cell hw 6
        have own : ∀ j, j < 7 → k59.R 59 _ (w.heap.size + 2) (fun _ => True) ([.slice B0 (withH l0 l1 (0 : Int)).length d0, .slice B1 (withH l0 l1 (1 : Int)).length d1, .slice B2 (withH l0 l1 (2 : Int)).length d2, .slice B3 (withH l0 l1 (3 : Int)).length d3, .slice B4 (withH l0 l1 (4 : Int)).length d4, .slice B5 (withH l0 l1 (5 : Int)).length d5, .slice B6 (withH l0 l1 (6 : Int)).length d6].getD j undef) (withH l0 l1 (j : Nat)) := fun j hj => Kd.R_mono (Kd.R_step (Kd.R_bound (HS.out.own j hj)) (fun k hk hlt => hO.block k hlt (by have := hk.2.1; show ¬ k = w.heap.size; omega))) (fun _ _ => trivial)
        exact bodyPost_ret (v := .agg #[.slice B0 (withH l0 l1 (0 : Int)).length d0, .slice B1 (withH l0 l1 (1 : Int)).length d1, .slice B2 (withH l0 l1 (2 : Int)).length d2, .slice B3 (withH l0 l1 (3 : Int)).length d3, .slice B4 (withH l0 l1 (4 : Int)).length d4, .slice B5 (withH l0 l1 (5 : Int)).length d5, .slice B6 (withH l0 l1 (6 : Int)).length d6]) (by simp [results, Try.results95, go_sem, hr0, hr1, hr2, hr3, hr4, hr5, hr6]) rfl ⟨[.slice B0 (withH l0 l1 (0 : Int)).length d0, .slice B1 (withH l0 l1 (1 : Int)).length d1, .slice B2 (withH l0 l1 (2 : Int)).length d2, .slice B3 (withH l0 l1 (3 : Int)).length d3, .slice B4 (withH l0 l1 (4 : Int)).length d4, .slice B5 (withH l0 l1 (5 : Int)).length d5, .slice B6 (withH l0 l1 (6 : Int)).length d6], rfl, rfl, fun j hj => Kd.R_reads (own j hj), Only.below HB.out hO HB.out.size (fun i hi => by subst hi; omega)⟩
  · rw [if_neg hh] at h; cases h

/-! ### impl_quay: function 58: this session's own text -/
/-- The longest hull's length, 0 if there is none. -/
def longH (xs : List S59) : Int := xs.foldl (fun m x => mx m x.f1) 0
/-- How long a quay the first n rafts need. -/
def quayTo (l : List S59) (r : List Int) : Nat → Int
  | 0 => 0
  | n + 1 => quayTo l r n + longH (withH l r (n : Int))
theorem longH_snoc (xs : List S59) (x : S59) : longH (xs ++ [x]) = mx (longH xs) x.f1 := by simp [longH]
theorem longH_in {xs : List S59} (h : ∀ x ∈ xs, vh x = true) : 0 ≤ longH xs ∧ longH xs ≤ 100 := by
  have key : ∀ (xs : List S59) (m : Int), (∀ x ∈ xs, vh x = true) → 0 ≤ m ∧ m ≤ 100 → 0 ≤ xs.foldl (fun m x => mx m x.f1) m ∧ xs.foldl (fun m x => mx m x.f1) m ≤ 100 := by
    intro xs
    induction xs with
    | nil => intro m _ hm; exact hm
    | cons x xs ih =>
      intro m h hm
      refine ih _ (fun y hy => h y (List.mem_cons_of_mem _ hy)) ?_
      have := h x List.mem_cons_self
      simp only [vh, decide_eq_true_eq] at this
      show 0 ≤ mx m x.f1 ∧ mx m x.f1 ≤ 100
      unfold mx
      split <;> omega
  exact key xs 0 h ⟨by omega, by omega⟩
theorem quayTo_in {l : List S59} {r : List Int} (h : ∀ x ∈ l, vh x = true) : ∀ n : Nat, 0 ≤ quayTo l r n ∧ quayTo l r n ≤ 100 * n
  | 0 => by simp [quayTo]
  | n + 1 => by
    have h1 := quayTo_in (r := r) h n
    have h2 := longH_in (xs := withH l r (n : Int)) (fun x hx => h x (withH_sub hx))
    simp only [quayTo]
    omega

theorem index_rafts (cs : Array Value) (k : IntKind) (x : Nat) (hx : x < 7) (v : Value) (hv : cs[x]? = some v) (W : World) : (Instr.index 106 (.agg cs) (.int k x)).run Try.prog W = .ok v W := by
  have h7 : (x : Int) < 7 := by omega
  simp [Instr.index, run_underlying Try.underlying106, asIntOf, part, go_sem, h7, hx, hv]

def impl_quay.f (l0 : List S59) (l1 : List Int) : Option Int := if l1.length ≤ l0.length ∧ l0.length ≤ 1048576 ∧ (∀ x ∈ l1, 0 ≤ x ∧ x < 7) ∧ (∀ x ∈ l0, vh x = true) then some (quayTo l0 l1 7) else none
set_option maxHeartbeats 4000000 in
set_option maxRecDepth 100000 in
theorem impl_quay.calls (A0 : Option Addr) (c0 : Nat) (l0 : List (S59)) (A1 : Option Addr) (c1 : Nat) (l1 : List Int) (r : Int) (w : World) (hr0 : Kd.C k59 w A0 l0.length l0) (hc0 : l0.length ≤ c0) (hr1 : Kd.C (Kd.int .i64) w A1 l1.length l1) (hc1 : l1.length ≤ c1) (h : impl_quay.f l0 l1 = some r) :
    Calls Try.prog 58 #[.slice A0 l0.length c0, .slice A1 l1.length c1] w fun e w' => e = .returned (.int .i64 r) ∧ Below w.heap.size w w' := by
  unfold impl_quay.f at h
  by_cases hh : l1.length ≤ l0.length ∧ l0.length ≤ 1048576 ∧ (∀ x ∈ l1, 0 ≤ x ∧ x < 7) ∧ (∀ x ∈ l0, vh x = true)
  · rw [if_pos hh] at h
    have hrf : Aside0 (Calls Try.prog 95 #[.slice A0 l0.length c0, .slice A1 l1.length c1] w fun e w' => ∃ vs : List Value, e = .returned (.agg vs.toArray) ∧ vs.length = 7 ∧ (∀ j, j < 7 → ∃ A c, vs.getD j undef = .slice A (withH l0 l1 j).length c ∧ (withH l0 l1 j).length ≤ c ∧ k59.C w' A (withH l0 l1 j).length (withH l0 l1 j)) ∧ Below w.heap.size w w') := ⟨impl_raftsOf.calls A0 c0 l0 A1 c1 l1 w hr0 hc0 hr1 hc1 (by unfold impl_raftsOf.f; rw [if_pos ⟨hh.1, hh.2.1, hh.2.2.1⟩])⟩
    have HH := Aside0.mk hh
    have HE := Aside0.mk (Option.some.inj h)
    clear hh hr0 hr1 hc0 hc1 h
    go_enter Try.func58, Try.ntmps58
    go_wp2_with (first | (go_at_call 95; refine hrf.out.mono ?_; rintro e w1 ⟨vs, rfl, hvl, hvs, hb1⟩; have HVS := Aside0.mk (And.intro hvl hvs); have HB1 := Aside0.mk hb1; clear hvl hvs hb1))
    go_loopg [14, 5] 7 (fun gk v14 v5 w' => ∃ x : Nat, v14 = .int .i64 x ∧ v5 = .int .i64 (quayTo l0 l1 x) ∧ Aside0 (x + gk = 7) ∧ Aside0 (Below w1.heap.size w1 w'))
    case atStart => exact ⟨0, rfl, rfl, ⟨rfl⟩, ⟨Below.refl _ _⟩⟩
    case round =>
      obtain ⟨x, rfl, rfl, HK, HB⟩ := hrel
      by_cases c3 : (x : Int) < 7
      · have c3b : decide ((x : Int) < 7) = true := decide_eq_true c3
        have hx7 : x < 7 := by omega
        obtain ⟨A, c, hsl, hcl, hC⟩ := HVS.out.2 x hx7
        obtain ⟨xs, hxs⟩ : ∃ xs, xs = withH l0 l1 x := ⟨_, rfl⟩
        rw [← hxs] at hsl hcl hC
        have hix : vs.toArray[x]? = some (.slice A xs.length c) := by
          rw [← hsl, List.getD_eq_getElem?_getD, List.getElem?_toArray, List.getElem?_eq_getElem (by rw [HVS.out.1]; exact hx7)]
          rfl
        have hidx := fun W => index_rafts vs.toArray .i64 x hx7 _ hix W
        have hC2 := Kd.C_below hC HB.out
        have hxl : xs.length ≤ 1048576 := by rw [hxs]; have := withH_length l0 l1 x; have := HH.out; omega
        have hlo := longH_in (xs := xs) (fun y hy => HH.out.2.2.2 y (withH_sub (hxs ▸ hy)))
        have hto := quayTo_in (l := l0) (r := l1) HH.out.2.2.2 x
        have HW : Aside0 (wrap64 (longH xs) = longH xs ∧ wrap64 (quayTo l0 l1 x + longH xs) = quayTo l0 l1 (x + 1) ∧ wrap64 ((x : Int) + 1) = ((x + 1 : Nat) : Int)) := ⟨by
          refine ⟨?_, ?_, ?_⟩
          · unfold wrap64; omega
          · simp only [quayTo, ← hxs]; unfold wrap64; omega
          · unfold wrap64; omega⟩
        have HC := Aside0.mk (And.intro hcl (And.intro hC2 hxl))
        clear c3 hsl hcl hC hC2 hxl hlo hto hxs hix
        go_wp2
        go_loopg [19, 8] xs.length (fun gk2 v19 v8 w' => ∃ p : Nat, v19 = .int .i64 p ∧ v8 = .int .i8 (longH (xs.take p)) ∧ Aside0 (p + gk2 = xs.length) ∧ Aside0 (Below wr.heap.size wr w'))
        case atStart => exact ⟨0, rfl, rfl, ⟨by omega⟩, ⟨Below.refl _ _⟩⟩
        case round =>
          obtain ⟨p, rfl, rfl, HK2, HB2⟩ := hrel
          by_cases c4 : (p : Int) < (xs.length : Int)
          · have c4b : decide ((p : Int) < (xs.length : Int)) = true := decide_eq_true c4
            have hp : p < xs.length := by omega
            obtain ⟨ad, e1, hx0_0, hx0_1, hx0_2⟩ := at_T59 (Kd.C_below HC.out.2.1 HB2.out) p (by omega) c4
            cases e1
            simp only [Int.toNat_natCast] at hx0_0 hx0_1 hx0_2
            have hu := Try.underlying59
            have HT : Aside0 (longH (xs.take (p + 1)) = mx (longH (xs.take p)) (rd_T59 xs p).f1) := ⟨by
              rw [List.take_succ_eq_append_getElem hp, longH_snoc, rd_T59, Int.toNat_natCast, List.getD_eq_getElem?_getD, List.getElem?_eq_getElem hp]; rfl⟩
            have HX : Aside0 (wrap64 ((p : Int) + 1) = ((p + 1 : Nat) : Int)) := ⟨by have := HC.out.2.2; unfold wrap64; omega⟩
            clear c4
            go_wp2
            all_goals
              go_roundg (gk - 1)
              case measure => have := HK2.out; omega
              case rel =>
                refine ⟨p + 1, by first | rfl | rw [HX.out], ?_, ⟨by have := HK2.out; omega⟩, ⟨below_alloc HB2.out _⟩⟩
                rw [HT.out]
                unfold mx
                split <;> first | rfl | (exfalso; omega)
          · have c4b : decide ((p : Int) < (xs.length : Int)) = false := decide_eq_false c4
            have c4n : decide (p < xs.length) = false := decide_eq_false (by omega)
            have hpt : xs.take p = xs := List.take_of_length_le (by omega)
            have HBo := Aside0.mk (HB.out.trans (HB2.out.mono HB.out.size))
            rw [hpt]
            clear c4 hpt
            go_wp2
            go_roundg (6 - x)
            case measure => have := HK.out; omega
            case rel =>
              exact ⟨x + 1, by first | rfl | rw [HW.out.2.2], by first | rfl | (rw [HW.out.1, HW.out.2.1]) | (rw [HW.out.2.1]), ⟨by have := HK.out; omega⟩, HBo⟩
      · have c3b : decide ((x : Int) < 7) = false := decide_eq_false c3
        have hx7 : x = 7 := by have := HK.out; omega
        subst hx7
        have HBo := Aside0.mk (HB1.out.trans (HB.out.mono HB1.out.size))
        clear c3
        go_wp2
        go_ret
        exact ⟨by rw [← HE.out]; first | rfl | (simp; done), HBo.out⟩
  · rw [if_neg hh] at h; cases h

/-! ### impl_ValidHull: function 88 -/
def impl_ValidHull.f (a0_0 : Int) (a0_1 : Int) (a0_2 : Int) : Option (Bool) := if a0_0 ≥ 1 then (if a0_0 ≤ 40 then (if a0_1 ≥ 1 then (if a0_1 ≤ 100 then (if a0_2 ≥ 1 then (some (decide (a0_2 ≤ 20))) else (some false)) else (some false)) else (some false)) else (some false)) else (some false)
set_option maxHeartbeats 8000000 in
set_option maxRecDepth 100000 in
theorem impl_ValidHull.calls (a0_0 : Int) (a0_1 : Int) (a0_2 : Int) (r : Bool) (w : World) (h : impl_ValidHull.f a0_0 a0_1 a0_2 = some r) :
    Calls Try.prog 88 #[.agg #[.int .i8 a0_0, .int .i8 a0_1, .int .i8 a0_2]] w fun e w' => e = .returned (.bool r) ∧ Below w.heap.size w w' := by
  have hu59 := Try.underlying59
  have HB := Aside0.mk (Below.refl w.heap.size w)
  have H : (if a0_0 ≥ 1 then (if a0_0 ≤ 40 then (if a0_1 ≥ 1 then (if a0_1 ≤ 100 then (if a0_2 ≥ 1 then (some (decide (a0_2 ≤ 20))) else (some false)) else (some false)) else (some false)) else (some false)) else (some false)) = some r := h
  clear h
  by_cases c2 : a0_0 ≥ 1
  · rw [if_pos c2] at H
    have c2b0 : decide (1 ≤ a0_0) = true := decide_eq_true c2
    clear c2
    by_cases c3 : a0_0 ≤ 40
    · rw [if_pos c3] at H
      have c3b0 : decide (a0_0 ≤ 40) = true := decide_eq_true c3
      clear c3
      by_cases c4 : a0_1 ≥ 1
      · rw [if_pos c4] at H
        have c4b0 : decide (1 ≤ a0_1) = true := decide_eq_true c4
        clear c4
        by_cases c5 : a0_1 ≤ 100
        · rw [if_pos c5] at H
          have c5b0 : decide (a0_1 ≤ 100) = true := decide_eq_true c5
          clear c5
          by_cases c6 : a0_2 ≥ 1
          · rw [if_pos c6] at H
            have c6b0 : decide (1 ≤ a0_2) = true := decide_eq_true c6
            clear c6
            obtain rfl := Option.some.inj H
            go_enter Try.func88, Try.ntmps88
            go_wp2_with (first | ((with_reducible refine gate_dst (N := 1) rfl ?_); refine box_event ?hg (N := 1) ?hd (cs := #[.int .i8 a0_0, .int .i8 a0_1, .int .i8 a0_2]) (t := 59) ?hr ?_; (case hd => rfl); (case hg => rfl); (case hr => first | (go_simp; done) | (go_simp; rfl)); intro gb218 hg w7 hbox hb; have n0_ := Aside0.mk (below_step (by repeat (first | (with_reducible first | exact HB.out | apply below_alloc | apply pw_below_drewN | apply below_drew1) | exact HB.out)) hb); have n1_ := Aside0.mk (hbox); have n2_ := Aside0.mk ((by rw [hg]; exact (below_size (by repeat (first | (with_reducible first | exact HB.out | apply below_alloc | apply pw_below_drewN | apply below_drew1) | exact HB.out))) : w.heap.size ≤ gb218)); have n3_ := Aside0.mk ((by rw [hg]; exact (below_size (by repeat (first | (with_reducible first | exact HB.out | apply below_alloc | apply pw_below_drewN | apply below_drew1) | exact HB.out))) : w.heap.size ≤ gb218)); clear HB; have HB := n0_; have BK218 := n1_; have GW218 := n2_; have GE218 := n3_; clear n0_ n1_ n2_ n3_; clear hb hbox hg; have hcz8_0 : w7.cell? ⟨gb218, 0, none⟩ = some (.int .i8 a0_0) := (blk_cell BK218.out 0).trans rfl; have hcz8_1 : w7.cell? ⟨gb218, 1, none⟩ = some (.int .i8 a0_1) := (blk_cell BK218.out 1).trans rfl; have hcz8_2 : w7.cell? ⟨gb218, 2, none⟩ = some (.int .i8 a0_2) := (blk_cell BK218.out 2).trans rfl; have hfz8_0 := blk_frozen BK218.out 0; have hfz8_1 := blk_frozen BK218.out 1; have hfz8_2 := blk_frozen BK218.out 2))
            go_ret
            exact ⟨by first | rfl | (simp [errW_none, errW_some] <;> rfl) | (simp [*, errW_none, errW_some] <;> rfl), by repeat (first | (with_reducible first | exact HB.out | apply below_alloc | apply pw_below_drewN | apply below_drew1 | refine below_set ?_ GE218.out) | exact HB.out)⟩
          · rw [if_neg c6] at H
            have c6b0 : decide (1 ≤ a0_2) = false := decide_eq_false c6
            clear c6
            obtain rfl := Option.some.inj H
            go_enter Try.func88, Try.ntmps88
            go_wp2_with (first | ((with_reducible refine gate_dst (N := 1) rfl ?_); refine box_event ?hg (N := 1) ?hd (cs := #[.int .i8 a0_0, .int .i8 a0_1, .int .i8 a0_2]) (t := 59) ?hr ?_; (case hd => rfl); (case hg => rfl); (case hr => first | (go_simp; done) | (go_simp; rfl)); intro gb218 hg w9 hbox hb; have n0_ := Aside0.mk (below_step (by repeat (first | (with_reducible first | exact HB.out | apply below_alloc | apply pw_below_drewN | apply below_drew1) | exact HB.out)) hb); have n1_ := Aside0.mk (hbox); have n2_ := Aside0.mk ((by rw [hg]; exact (below_size (by repeat (first | (with_reducible first | exact HB.out | apply below_alloc | apply pw_below_drewN | apply below_drew1) | exact HB.out))) : w.heap.size ≤ gb218)); have n3_ := Aside0.mk ((by rw [hg]; exact (below_size (by repeat (first | (with_reducible first | exact HB.out | apply below_alloc | apply pw_below_drewN | apply below_drew1) | exact HB.out))) : w.heap.size ≤ gb218)); clear HB; have HB := n0_; have BK218 := n1_; have GW218 := n2_; have GE218 := n3_; clear n0_ n1_ n2_ n3_; clear hb hbox hg; have hcz10_0 : w9.cell? ⟨gb218, 0, none⟩ = some (.int .i8 a0_0) := (blk_cell BK218.out 0).trans rfl; have hcz10_1 : w9.cell? ⟨gb218, 1, none⟩ = some (.int .i8 a0_1) := (blk_cell BK218.out 1).trans rfl; have hcz10_2 : w9.cell? ⟨gb218, 2, none⟩ = some (.int .i8 a0_2) := (blk_cell BK218.out 2).trans rfl; have hfz10_0 := blk_frozen BK218.out 0; have hfz10_1 := blk_frozen BK218.out 1; have hfz10_2 := blk_frozen BK218.out 2))
            go_ret
            exact ⟨by first | rfl | (simp [errW_none, errW_some] <;> rfl) | (simp [*, errW_none, errW_some] <;> rfl), by repeat (first | (with_reducible first | exact HB.out | apply below_alloc | apply pw_below_drewN | apply below_drew1 | refine below_set ?_ GE218.out) | exact HB.out)⟩
        · rw [if_neg c5] at H
          have c5b0 : decide (a0_1 ≤ 100) = false := decide_eq_false c5
          clear c5
          obtain rfl := Option.some.inj H
          go_enter Try.func88, Try.ntmps88
          go_wp2_with (first | ((with_reducible refine gate_dst (N := 1) rfl ?_); refine box_event ?hg (N := 1) ?hd (cs := #[.int .i8 a0_0, .int .i8 a0_1, .int .i8 a0_2]) (t := 59) ?hr ?_; (case hd => rfl); (case hg => rfl); (case hr => first | (go_simp; done) | (go_simp; rfl)); intro gb218 hg w11 hbox hb; have n0_ := Aside0.mk (below_step (by repeat (first | (with_reducible first | exact HB.out | apply below_alloc | apply pw_below_drewN | apply below_drew1) | exact HB.out)) hb); have n1_ := Aside0.mk (hbox); have n2_ := Aside0.mk ((by rw [hg]; exact (below_size (by repeat (first | (with_reducible first | exact HB.out | apply below_alloc | apply pw_below_drewN | apply below_drew1) | exact HB.out))) : w.heap.size ≤ gb218)); have n3_ := Aside0.mk ((by rw [hg]; exact (below_size (by repeat (first | (with_reducible first | exact HB.out | apply below_alloc | apply pw_below_drewN | apply below_drew1) | exact HB.out))) : w.heap.size ≤ gb218)); clear HB; have HB := n0_; have BK218 := n1_; have GW218 := n2_; have GE218 := n3_; clear n0_ n1_ n2_ n3_; clear hb hbox hg; have hcz12_0 : w11.cell? ⟨gb218, 0, none⟩ = some (.int .i8 a0_0) := (blk_cell BK218.out 0).trans rfl; have hcz12_1 : w11.cell? ⟨gb218, 1, none⟩ = some (.int .i8 a0_1) := (blk_cell BK218.out 1).trans rfl; have hcz12_2 : w11.cell? ⟨gb218, 2, none⟩ = some (.int .i8 a0_2) := (blk_cell BK218.out 2).trans rfl; have hfz12_0 := blk_frozen BK218.out 0; have hfz12_1 := blk_frozen BK218.out 1; have hfz12_2 := blk_frozen BK218.out 2))
          go_ret
          exact ⟨by first | rfl | (simp [errW_none, errW_some] <;> rfl) | (simp [*, errW_none, errW_some] <;> rfl), by repeat (first | (with_reducible first | exact HB.out | apply below_alloc | apply pw_below_drewN | apply below_drew1 | refine below_set ?_ GE218.out) | exact HB.out)⟩
      · rw [if_neg c4] at H
        have c4b0 : decide (1 ≤ a0_1) = false := decide_eq_false c4
        clear c4
        obtain rfl := Option.some.inj H
        go_enter Try.func88, Try.ntmps88
        go_wp2_with (first | ((with_reducible refine gate_dst (N := 1) rfl ?_); refine box_event ?hg (N := 1) ?hd (cs := #[.int .i8 a0_0, .int .i8 a0_1, .int .i8 a0_2]) (t := 59) ?hr ?_; (case hd => rfl); (case hg => rfl); (case hr => first | (go_simp; done) | (go_simp; rfl)); intro gb218 hg w13 hbox hb; have n0_ := Aside0.mk (below_step (by repeat (first | (with_reducible first | exact HB.out | apply below_alloc | apply pw_below_drewN | apply below_drew1) | exact HB.out)) hb); have n1_ := Aside0.mk (hbox); have n2_ := Aside0.mk ((by rw [hg]; exact (below_size (by repeat (first | (with_reducible first | exact HB.out | apply below_alloc | apply pw_below_drewN | apply below_drew1) | exact HB.out))) : w.heap.size ≤ gb218)); have n3_ := Aside0.mk ((by rw [hg]; exact (below_size (by repeat (first | (with_reducible first | exact HB.out | apply below_alloc | apply pw_below_drewN | apply below_drew1) | exact HB.out))) : w.heap.size ≤ gb218)); clear HB; have HB := n0_; have BK218 := n1_; have GW218 := n2_; have GE218 := n3_; clear n0_ n1_ n2_ n3_; clear hb hbox hg; have hcz14_0 : w13.cell? ⟨gb218, 0, none⟩ = some (.int .i8 a0_0) := (blk_cell BK218.out 0).trans rfl; have hcz14_1 : w13.cell? ⟨gb218, 1, none⟩ = some (.int .i8 a0_1) := (blk_cell BK218.out 1).trans rfl; have hcz14_2 : w13.cell? ⟨gb218, 2, none⟩ = some (.int .i8 a0_2) := (blk_cell BK218.out 2).trans rfl; have hfz14_0 := blk_frozen BK218.out 0; have hfz14_1 := blk_frozen BK218.out 1; have hfz14_2 := blk_frozen BK218.out 2))
        go_ret
        exact ⟨by first | rfl | (simp [errW_none, errW_some] <;> rfl) | (simp [*, errW_none, errW_some] <;> rfl), by repeat (first | (with_reducible first | exact HB.out | apply below_alloc | apply pw_below_drewN | apply below_drew1 | refine below_set ?_ GE218.out) | exact HB.out)⟩
    · rw [if_neg c3] at H
      have c3b0 : decide (a0_0 ≤ 40) = false := decide_eq_false c3
      clear c3
      obtain rfl := Option.some.inj H
      go_enter Try.func88, Try.ntmps88
      go_wp2_with (first | ((with_reducible refine gate_dst (N := 1) rfl ?_); refine box_event ?hg (N := 1) ?hd (cs := #[.int .i8 a0_0, .int .i8 a0_1, .int .i8 a0_2]) (t := 59) ?hr ?_; (case hd => rfl); (case hg => rfl); (case hr => first | (go_simp; done) | (go_simp; rfl)); intro gb218 hg w15 hbox hb; have n0_ := Aside0.mk (below_step (by repeat (first | (with_reducible first | exact HB.out | apply below_alloc | apply pw_below_drewN | apply below_drew1) | exact HB.out)) hb); have n1_ := Aside0.mk (hbox); have n2_ := Aside0.mk ((by rw [hg]; exact (below_size (by repeat (first | (with_reducible first | exact HB.out | apply below_alloc | apply pw_below_drewN | apply below_drew1) | exact HB.out))) : w.heap.size ≤ gb218)); have n3_ := Aside0.mk ((by rw [hg]; exact (below_size (by repeat (first | (with_reducible first | exact HB.out | apply below_alloc | apply pw_below_drewN | apply below_drew1) | exact HB.out))) : w.heap.size ≤ gb218)); clear HB; have HB := n0_; have BK218 := n1_; have GW218 := n2_; have GE218 := n3_; clear n0_ n1_ n2_ n3_; clear hb hbox hg; have hcz16_0 : w15.cell? ⟨gb218, 0, none⟩ = some (.int .i8 a0_0) := (blk_cell BK218.out 0).trans rfl; have hcz16_1 : w15.cell? ⟨gb218, 1, none⟩ = some (.int .i8 a0_1) := (blk_cell BK218.out 1).trans rfl; have hcz16_2 : w15.cell? ⟨gb218, 2, none⟩ = some (.int .i8 a0_2) := (blk_cell BK218.out 2).trans rfl; have hfz16_0 := blk_frozen BK218.out 0; have hfz16_1 := blk_frozen BK218.out 1; have hfz16_2 := blk_frozen BK218.out 2))
      go_ret
      exact ⟨by first | rfl | (simp [errW_none, errW_some] <;> rfl) | (simp [*, errW_none, errW_some] <;> rfl), by repeat (first | (with_reducible first | exact HB.out | apply below_alloc | apply pw_below_drewN | apply below_drew1 | refine below_set ?_ GE218.out) | exact HB.out)⟩
  · rw [if_neg c2] at H
    have c2b0 : decide (1 ≤ a0_0) = false := decide_eq_false c2
    clear c2
    obtain rfl := Option.some.inj H
    go_enter Try.func88, Try.ntmps88
    go_wp2_with (first | ((with_reducible refine gate_dst (N := 1) rfl ?_); refine box_event ?hg (N := 1) ?hd (cs := #[.int .i8 a0_0, .int .i8 a0_1, .int .i8 a0_2]) (t := 59) ?hr ?_; (case hd => rfl); (case hg => rfl); (case hr => first | (go_simp; done) | (go_simp; rfl)); intro gb218 hg w17 hbox hb; have n0_ := Aside0.mk (below_step (by repeat (first | (with_reducible first | exact HB.out | apply below_alloc | apply pw_below_drewN | apply below_drew1) | exact HB.out)) hb); have n1_ := Aside0.mk (hbox); have n2_ := Aside0.mk ((by rw [hg]; exact (below_size (by repeat (first | (with_reducible first | exact HB.out | apply below_alloc | apply pw_below_drewN | apply below_drew1) | exact HB.out))) : w.heap.size ≤ gb218)); have n3_ := Aside0.mk ((by rw [hg]; exact (below_size (by repeat (first | (with_reducible first | exact HB.out | apply below_alloc | apply pw_below_drewN | apply below_drew1) | exact HB.out))) : w.heap.size ≤ gb218)); clear HB; have HB := n0_; have BK218 := n1_; have GW218 := n2_; have GE218 := n3_; clear n0_ n1_ n2_ n3_; clear hb hbox hg; have hcz18_0 : w17.cell? ⟨gb218, 0, none⟩ = some (.int .i8 a0_0) := (blk_cell BK218.out 0).trans rfl; have hcz18_1 : w17.cell? ⟨gb218, 1, none⟩ = some (.int .i8 a0_1) := (blk_cell BK218.out 1).trans rfl; have hcz18_2 : w17.cell? ⟨gb218, 2, none⟩ = some (.int .i8 a0_2) := (blk_cell BK218.out 2).trans rfl; have hfz18_0 := blk_frozen BK218.out 0; have hfz18_1 := blk_frozen BK218.out 1; have hfz18_2 := blk_frozen BK218.out 2))
    go_ret
    exact ⟨by first | rfl | (simp [errW_none, errW_some] <;> rfl) | (simp [*, errW_none, errW_some] <;> rfl), by repeat (first | (with_reducible first | exact HB.out | apply below_alloc | apply pw_below_drewN | apply below_drew1 | refine below_set ?_ GE218.out) | exact HB.out)⟩

/-! ### impl_hullsCode: function 49 -/
def impl_hullsCode.l0 : Nat → List (S59) → List (S59) → Int → Int → Option (Int)
  | 0, _, _, _, _ => none
  | k + 1, x0, x5, x6, x7 => if x7 < x6 then (if 0 ≤ x7 then (if x7 < (x5.length : Int) then ((impl_ValidHull.f ((rd_T59 x5 x7).f0) ((rd_T59 x5 x7).f1) ((rd_T59 x5 x7).f2)).bind fun t221 => (if t221 = true then (impl_hullsCode.l0 k x0 x5 x6 (wrap64 (x7 + 1))) else (some 1))) else (none)) else (none)) else (if (x0.length : Int) > 7 then (some 3) else (some 0))
def impl_hullsCode.f (k : Nat) (l0 : List (S59)) : Option (Int) := impl_hullsCode.l0 k l0 l0 (l0.length : Int) 0
theorem impl_hullsCode.mono_l : ∀ k, (∀ y0 y1 y2 y3, LeO (impl_hullsCode.l0 k y0 y1 y2 y3) (impl_hullsCode.l0 (k + 1) y0 y1 y2 y3))
  | 0 => fun _ _ _ _ r h => by simp [impl_hullsCode.l0] at h
  | k + 1 => by
    have ih0 := impl_hullsCode.mono_l k
    · intro y0 y1 y2 y3
      unfold impl_hullsCode.l0
      repeat' first
      | (with_reducible exact ih0 _ _ _ _)
      | (with_reducible exact LeO.refl _)
      | (with_reducible exact LeO.none _)
      | (with_reducible refine LeO.ite ?_ ?_)
      | (with_reducible refine LeO.bind ?_ (fun _ => ?_))
      | exact ih0 _ _ _ _
      | exact LeO.none _
      | refine LeO.ite ?_ ?_
      | refine LeO.bind ?_ (fun _ => ?_)
theorem impl_hullsCode.mono : ∀ a0 k, LeO (impl_hullsCode.f k a0) (impl_hullsCode.f (k + 1) a0) := by
  intro a0 k
  have ih0 := impl_hullsCode.mono_l k
  unfold impl_hullsCode.f
  repeat' first
      | (with_reducible exact ih0 _ _ _ _)
      | (with_reducible exact LeO.refl _)
      | (with_reducible exact LeO.none _)
      | (with_reducible refine LeO.ite ?_ ?_)
      | (with_reducible refine LeO.bind ?_ (fun _ => ?_))
      | exact ih0 _ _ _ _
      | exact LeO.none _
      | refine LeO.ite ?_ ?_
      | refine LeO.bind ?_ (fun _ => ?_)
set_option maxHeartbeats 8000000 in
set_option maxRecDepth 100000 in
theorem impl_hullsCode.calls (k : Nat) (A0 : Option Addr) (c0 : Nat) (l0 : List (S59)) (r : Int) (w : World) (hr0 : Kd.C k59 w A0 l0.length l0) (hc0 : l0.length ≤ c0) (h : impl_hullsCode.f k l0 = some r) :
    Calls Try.prog 49 #[.slice A0 l0.length c0] w fun e w' => e = .returned (.int .i64 r) ∧ Below w.heap.size w w' := by
  have hu59 := Try.underlying59
  have HR0 := Aside0.mk hr0
  have HC0 := Aside0.mk hc0
  clear hr0 hc0
  have HB := Aside0.mk (Below.refl w.heap.size w)
  have H : (impl_hullsCode.l0 k l0 l0 (l0.length : Int) 0) = some r := h
  clear h
  have H' := Aside0.mk H
  clear H
  go_enter Try.func49, Try.ntmps49
  go_wp2
  go_loopg [7] k (fun kq v7 w' => ∃ (x7_1 : Int), v7 = .int .i64 x7_1 ∧ Aside0 (impl_hullsCode.l0 kq l0 l0 (l0.length : Int) x7_1 = some r) ∧ Aside0 (kq ≤ k) ∧ Aside0 (Below w.heap.size w w'))
  case atStart => exact ⟨(0), (by first | rfl | (simp; done) | (simp [*]; done)), H', ⟨Nat.le_refl _⟩, ⟨by repeat (first | (with_reducible first | exact HB.out | apply below_alloc | apply pw_below_drewN | apply below_drew1) | exact HB.out)⟩⟩
  case round =>
    clear H'
    obtain ⟨x7_1, rfl, HA, HK1, HB⟩ := hrel
    cases gk with
    | zero => exact absurd HA.out (by simp [impl_hullsCode.l0])
    | succ k1 =>
      have H := HA.out
      clear HA
      simp only [impl_hullsCode.l0] at H
      by_cases c2 : x7_1 < (l0.length : Int)
      · rw [if_pos c2] at H
        have c2b0 : decide (x7_1 < (l0.length : Int)) = true := decide_eq_true c2
        clear c2
        by_cases c3 : 0 ≤ x7_1
        · rw [if_pos c3] at H
          have c3b0 : decide (0 ≤ x7_1) = true := decide_eq_true c3
          clear c3
          by_cases c4 : x7_1 < (l0.length : Int)
          · rw [if_pos c4] at H
            have c4b0 : decide (x7_1 < (l0.length : Int)) = true := decide_eq_true c4
            clear c4
            replace H := Option.bind_eq_some_iff.mp H
            obtain ⟨t221, A50, H⟩ := H
            replace H : (if t221 = true then (impl_hullsCode.l0 k1 l0 l0 (l0.length : Int) (wrap64 (x7_1 + 1))) else (some 1)) = some r := H
            have A5 := Aside0.mk A50
            clear A50
            by_cases c6 : t221 = true
            · subst c6
              have H1 : (impl_hullsCode.l0 k1 l0 l0 (l0.length : Int) (wrap64 (x7_1 + 1))) = some r := by rw [if_pos rfl] at H; exact H
              clear H
              have H := H1
              clear H1
              have H' := Aside0.mk H
              clear H
              have p219 : 0 ≤ (x7_1 : Int) := of_decide_eq_true (by first | (with_reducible assumption) | assumption)
              have q219 : x7_1 < (l0.length : Int) := of_decide_eq_true (by first | (with_reducible assumption) | assumption)
              obtain ⟨ad219, e219, hx219_0, hx219_1, hx219_2⟩ := at_T59 HR0.out x7_1 p219 q219
              cases e219
              replace hx219_0 := (HB.out.cell (World.block_lt_of_cell? w _ hx219_0)).trans hx219_0
              replace hx219_1 := (HB.out.cell (World.block_lt_of_cell? w _ hx219_1)).trans hx219_1
              replace hx219_2 := (HB.out.cell (World.block_lt_of_cell? w _ hx219_2)).trans hx219_2
              replace p219 := eq_true p219
              replace q219 := eq_true q219
              go_wp2_with (first | ((with_reducible refine gate_dst (N := 4) rfl ?_); refine box_event ?hg (N := 4) ?hd (cs := #[.int .i8 0, .int .i8 0, .int .i8 0]) (t := 59) ?hr ?_; (case hd => rfl); (case hg => rfl); (case hr => first | (go_simp; done) | (go_simp; rfl)); intro gb220 hg w7 hbox hb; have n0_ := Aside0.mk (below_step (by repeat (first | (with_reducible first | exact HB.out | apply below_alloc | apply pw_below_drewN | apply below_drew1) | exact HB.out)) hb); have n1_ := Aside0.mk (hbox); have n2_ := Aside0.mk ((by rw [hg]; exact (below_size (by repeat (first | (with_reducible first | exact HB.out | apply below_alloc | apply pw_below_drewN | apply below_drew1) | exact HB.out))) : w.heap.size ≤ gb220)); have n3_ := Aside0.mk ((by rw [hg]; exact (below_size (by repeat (first | (with_reducible first | exact HB.out | apply below_alloc | apply pw_below_drewN | apply below_drew1) | exact HB.out))) : w.heap.size ≤ gb220)); clear HB; have HB := n0_; have BK220 := n1_; have GW220 := n2_; have GE220 := n3_; clear n0_ n1_ n2_ n3_; clear hb hbox hg; have hcz8_0 : w7.cell? ⟨gb220, 0, none⟩ = some (.int .i8 0) := (blk_cell BK220.out 0).trans rfl; have hcz8_1 : w7.cell? ⟨gb220, 1, none⟩ = some (.int .i8 0) := (blk_cell BK220.out 1).trans rfl; have hcz8_2 : w7.cell? ⟨gb220, 2, none⟩ = some (.int .i8 0) := (blk_cell BK220.out 2).trans rfl; have hfz8_0 := blk_frozen BK220.out 0; have hfz8_1 := blk_frozen BK220.out 1; have hfz8_2 := blk_frozen BK220.out 2) | ((with_reducible refine gate_callee (f := 88) rfl ?_); refine goesL_ (some 12) rfl rfl Try.func88 (by kernel_rfl) rfl #[.agg #[.int .i8 ((rd_T59 l0 x7_1).f0), .int .i8 ((rd_T59 l0 x7_1).f1), .int .i8 ((rd_T59 l0 x7_1).f2)]] rfl (by (try simp only [List.map_toArray, List.map_cons, List.map_nil]); first | done | rfl | (simp only [List.length_drop, List.length_take]; rfl)) ?_; (with_reducible refine (impl_ValidHull.calls ((rd_T59 l0 x7_1).f0) ((rd_T59 l0 x7_1).f1) ((rd_T59 l0 x7_1).f2) true _ A5.out).mono ?_); rintro e w9 ⟨rfl, hb⟩; refine ⟨_, rfl, ?_⟩; have n0_ := Aside0.mk (blk_below (g := gb220) (o := .cells #[.int .i8 ((rd_T59 l0 x7_1).f0), .int .i8 ((rd_T59 l0 x7_1).f1), .int .i8 ((rd_T59 l0 x7_1).f2)] 59 (0, 0)) (by (with_reducible repeat (first | refine blk_drewN ?_ _ | refine blk_drew ?_ | refine blk_alloc ?_ _)); refine blk_put (cs := #[.int .i8 ((rd_T59 l0 x7_1).f0), .int .i8 ((rd_T59 l0 x7_1).f1), .int .i8 0]) ?_ 2 _ rfl; (with_reducible repeat (first | refine blk_drewN ?_ _ | refine blk_drew ?_ | refine blk_alloc ?_ _)); refine blk_put (cs := #[.int .i8 ((rd_T59 l0 x7_1).f0), .int .i8 0, .int .i8 0]) ?_ 1 _ rfl; (with_reducible repeat (first | refine blk_drewN ?_ _ | refine blk_drew ?_ | refine blk_alloc ?_ _)); refine blk_put (cs := #[.int .i8 0, .int .i8 0, .int .i8 0]) ?_ 0 _ rfl; (with_reducible repeat (first | refine blk_drewN ?_ _ | refine blk_drew ?_ | refine blk_alloc ?_ _)); exact BK220.out) hb); have n1_ := Aside0.mk (below_step (by repeat (first | (with_reducible first | exact HB.out | apply below_alloc | apply pw_below_drewN | apply below_drew1 | refine below_set ?_ GE220.out) | exact HB.out)) hb); clear BK220; clear HB; have BK220 := n0_; have HB := n1_; clear n0_ n1_; (try clear hb); (try clear hb2); (try clear hk); (try clear hi)))
              go_roundg k1
              case measure => have := HK1.out; omega
              case rel => exact ⟨(wrap64 (x7_1 + 1)), (by first | rfl | (simp; done) | (simp [*]; done)), H', ⟨by have := HK1.out; omega⟩, ⟨by repeat (first | (with_reducible first | exact HB.out | apply below_alloc | apply pw_below_drewN | apply below_drew1 | refine below_set ?_ GE220.out) | exact HB.out)⟩⟩
            · replace c6 := Bool.eq_false_iff.mpr c6
              subst c6
              have H1 : (some 1) = some r := by rw [if_neg (show ¬ (false = true) by decide)] at H; exact H
              clear H
              have H := H1
              clear H1
              obtain rfl := Option.some.inj H
              have p219 : 0 ≤ (x7_1 : Int) := of_decide_eq_true (by first | (with_reducible assumption) | assumption)
              have q219 : x7_1 < (l0.length : Int) := of_decide_eq_true (by first | (with_reducible assumption) | assumption)
              obtain ⟨ad219, e219, hx219_0, hx219_1, hx219_2⟩ := at_T59 HR0.out x7_1 p219 q219
              cases e219
              replace hx219_0 := (HB.out.cell (World.block_lt_of_cell? w _ hx219_0)).trans hx219_0
              replace hx219_1 := (HB.out.cell (World.block_lt_of_cell? w _ hx219_1)).trans hx219_1
              replace hx219_2 := (HB.out.cell (World.block_lt_of_cell? w _ hx219_2)).trans hx219_2
              replace p219 := eq_true p219
              replace q219 := eq_true q219
              go_wp2_with (first | ((with_reducible refine gate_dst (N := 4) rfl ?_); refine box_event ?hg (N := 4) ?hd (cs := #[.int .i8 0, .int .i8 0, .int .i8 0]) (t := 59) ?hr ?_; (case hd => rfl); (case hg => rfl); (case hr => first | (go_simp; done) | (go_simp; rfl)); intro gb220 hg w10 hbox hb; have n0_ := Aside0.mk (below_step (by repeat (first | (with_reducible first | exact HB.out | apply below_alloc | apply pw_below_drewN | apply below_drew1) | exact HB.out)) hb); have n1_ := Aside0.mk (hbox); have n2_ := Aside0.mk ((by rw [hg]; exact (below_size (by repeat (first | (with_reducible first | exact HB.out | apply below_alloc | apply pw_below_drewN | apply below_drew1) | exact HB.out))) : w.heap.size ≤ gb220)); have n3_ := Aside0.mk ((by rw [hg]; exact (below_size (by repeat (first | (with_reducible first | exact HB.out | apply below_alloc | apply pw_below_drewN | apply below_drew1) | exact HB.out))) : w.heap.size ≤ gb220)); clear HB; have HB := n0_; have BK220 := n1_; have GW220 := n2_; have GE220 := n3_; clear n0_ n1_ n2_ n3_; clear hb hbox hg; have hcz11_0 : w10.cell? ⟨gb220, 0, none⟩ = some (.int .i8 0) := (blk_cell BK220.out 0).trans rfl; have hcz11_1 : w10.cell? ⟨gb220, 1, none⟩ = some (.int .i8 0) := (blk_cell BK220.out 1).trans rfl; have hcz11_2 : w10.cell? ⟨gb220, 2, none⟩ = some (.int .i8 0) := (blk_cell BK220.out 2).trans rfl; have hfz11_0 := blk_frozen BK220.out 0; have hfz11_1 := blk_frozen BK220.out 1; have hfz11_2 := blk_frozen BK220.out 2) | ((with_reducible refine gate_callee (f := 88) rfl ?_); refine goesL_ (some 12) rfl rfl Try.func88 (by kernel_rfl) rfl #[.agg #[.int .i8 ((rd_T59 l0 x7_1).f0), .int .i8 ((rd_T59 l0 x7_1).f1), .int .i8 ((rd_T59 l0 x7_1).f2)]] rfl (by (try simp only [List.map_toArray, List.map_cons, List.map_nil]); first | done | rfl | (simp only [List.length_drop, List.length_take]; rfl)) ?_; (with_reducible refine (impl_ValidHull.calls ((rd_T59 l0 x7_1).f0) ((rd_T59 l0 x7_1).f1) ((rd_T59 l0 x7_1).f2) false _ A5.out).mono ?_); rintro e w12 ⟨rfl, hb⟩; refine ⟨_, rfl, ?_⟩; have n0_ := Aside0.mk (blk_below (g := gb220) (o := .cells #[.int .i8 ((rd_T59 l0 x7_1).f0), .int .i8 ((rd_T59 l0 x7_1).f1), .int .i8 ((rd_T59 l0 x7_1).f2)] 59 (0, 0)) (by (with_reducible repeat (first | refine blk_drewN ?_ _ | refine blk_drew ?_ | refine blk_alloc ?_ _)); refine blk_put (cs := #[.int .i8 ((rd_T59 l0 x7_1).f0), .int .i8 ((rd_T59 l0 x7_1).f1), .int .i8 0]) ?_ 2 _ rfl; (with_reducible repeat (first | refine blk_drewN ?_ _ | refine blk_drew ?_ | refine blk_alloc ?_ _)); refine blk_put (cs := #[.int .i8 ((rd_T59 l0 x7_1).f0), .int .i8 0, .int .i8 0]) ?_ 1 _ rfl; (with_reducible repeat (first | refine blk_drewN ?_ _ | refine blk_drew ?_ | refine blk_alloc ?_ _)); refine blk_put (cs := #[.int .i8 0, .int .i8 0, .int .i8 0]) ?_ 0 _ rfl; (with_reducible repeat (first | refine blk_drewN ?_ _ | refine blk_drew ?_ | refine blk_alloc ?_ _)); exact BK220.out) hb); have n1_ := Aside0.mk (below_step (by repeat (first | (with_reducible first | exact HB.out | apply below_alloc | apply pw_below_drewN | apply below_drew1 | refine below_set ?_ GE220.out) | exact HB.out)) hb); clear BK220; clear HB; have BK220 := n0_; have HB := n1_; clear n0_ n1_; (try clear hb); (try clear hb2); (try clear hk); (try clear hi)))
              go_ret
              exact ⟨by first | rfl | (simp [errW_none, errW_some] <;> rfl) | (simp [*, errW_none, errW_some] <;> rfl), by repeat (first | (with_reducible first | exact HB.out | apply below_alloc | apply pw_below_drewN | apply below_drew1 | refine below_set ?_ GE220.out) | exact HB.out)⟩
          · rw [if_neg c4] at H
            exact absurd H (by simp)
        · rw [if_neg c3] at H
          exact absurd H (by simp)
      · rw [if_neg c2] at H
        have c2b0 : decide (x7_1 < (l0.length : Int)) = false := decide_eq_false c2
        clear c2
        by_cases c13 : (l0.length : Int) > 7
        · rw [if_pos c13] at H
          have c13b0 : decide (7 < (l0.length : Int)) = true := decide_eq_true c13
          have c13b1 : decide (7 < l0.length) = true := decide_eq_true (by omega)
          clear c13
          obtain rfl := Option.some.inj H
          go_wp2
          go_ret
          exact ⟨by first | rfl | (simp [errW_none, errW_some] <;> rfl) | (simp [*, errW_none, errW_some] <;> rfl), by repeat (first | (with_reducible first | exact HB.out | apply below_alloc | apply pw_below_drewN | apply below_drew1) | exact HB.out)⟩
        · rw [if_neg c13] at H
          have c13b0 : decide (7 < (l0.length : Int)) = false := decide_eq_false c13
          have c13b1 : decide (7 < l0.length) = false := decide_eq_false (by omega)
          clear c13
          obtain rfl := Option.some.inj H
          go_wp2
          go_ret
          exact ⟨by first | rfl | (simp [errW_none, errW_some] <;> rfl) | (simp [*, errW_none, errW_some] <;> rfl), by repeat (first | (with_reducible first | exact HB.out | apply below_alloc | apply pw_below_drewN | apply below_drew1) | exact HB.out)⟩

/-! ### impl_deepCode: function 62 -/
def impl_deepCode.f (k : Nat) (l0 : List (S59)) (a1 : Int) : Option (Int) := (impl_hullsCode.f k l0).bind fun t222 => (if t222 = 0 then (if a1 < 1 then (some 2) else (if a1 > 400 then (some 2) else (some 0))) else (some t222))
theorem impl_deepCode.mono : ∀ a0 a1 k, LeO (impl_deepCode.f k a0 a1) (impl_deepCode.f (k + 1) a0 a1) := by
  intro a0 a1 k
  unfold impl_deepCode.f
  repeat' first
      | (with_reducible exact impl_hullsCode.mono _ _)
      | (with_reducible exact LeO.refl _)
      | (with_reducible exact LeO.none _)
      | (with_reducible refine LeO.ite ?_ ?_)
      | (with_reducible refine LeO.bind ?_ (fun _ => ?_))
      | exact impl_hullsCode.mono _ _
      | exact LeO.none _
      | refine LeO.ite ?_ ?_
      | refine LeO.bind ?_ (fun _ => ?_)
set_option maxHeartbeats 8000000 in
set_option maxRecDepth 100000 in
theorem impl_deepCode.calls (k : Nat) (A0 : Option Addr) (c0 : Nat) (l0 : List (S59)) (a1 : Int) (r : Int) (w : World) (hr0 : Kd.C k59 w A0 l0.length l0) (hc0 : l0.length ≤ c0) (h : impl_deepCode.f k l0 a1 = some r) :
    Calls Try.prog 62 #[.slice A0 l0.length c0, .int .i64 a1] w fun e w' => e = .returned (.int .i64 r) ∧ Below w.heap.size w w' := by
  have HR0 := Aside0.mk hr0
  have HC0 := Aside0.mk hc0
  clear hr0 hc0
  have HB := Aside0.mk (Below.refl w.heap.size w)
  have H : ((impl_hullsCode.f k l0).bind fun t222 => (if t222 = 0 then (if a1 < 1 then (some 2) else (if a1 > 400 then (some 2) else (some 0))) else (some t222))) = some r := h
  clear h
  replace H := Option.bind_eq_some_iff.mp H
  obtain ⟨t222, A30, H⟩ := H
  replace H : (if t222 = 0 then (if a1 < 1 then (some 2) else (if a1 > 400 then (some 2) else (some 0))) else (some t222)) = some r := H
  have A3 := Aside0.mk A30
  clear A30
  by_cases c4 : t222 = 0
  · rw [if_pos c4] at H
    have c4b0 : (t222 == 0) = true := beq_iff_eq.mpr c4
    have c4b1 : (t222 != 0) = false := bne_eq_false_iff_eq.mpr c4
    clear c4
    by_cases c5 : a1 < 1
    · rw [if_pos c5] at H
      have c5b0 : decide (a1 < 1) = true := decide_eq_true c5
      clear c5
      obtain rfl := Option.some.inj H
      go_enter Try.func62, Try.ntmps62
      go_wp2_with (first | ((with_reducible refine gate_callee (f := 49) rfl ?_); refine goesL_ (some 7) rfl rfl Try.func49 (by kernel_rfl) rfl #[.slice A0 l0.length c0] rfl (by (try simp only [List.map_toArray, List.map_cons, List.map_nil]); first | done | rfl | (simp only [List.length_drop, List.length_take]; rfl)) ?_; (with_reducible refine (impl_hullsCode.calls k _ _ l0 t222 _ ?side1 ?side2 A3.out).mono ?_); (case side1 => repeat (first | exact HR0.out | (with_reducible refine Kd.C_alloc ?_ _) | (with_reducible refine Kd.C_drewN ?_ _) | (with_reducible refine Kd.C_drew ?_))); (case side2 => exact HC0.out); rintro e w6 ⟨rfl, hb⟩; refine ⟨_, rfl, ?_⟩; have n0_ := Aside0.mk (below_step (by repeat (first | (with_reducible first | exact HB.out | apply below_alloc | apply pw_below_drewN | apply below_drew1) | exact HB.out)) hb); clear HB; have HB := n0_; clear n0_; (try clear hb); (try clear hb2); (try clear hk); (try clear hi)))
      go_ret
      exact ⟨by first | rfl | (simp [errW_none, errW_some] <;> rfl) | (simp [*, errW_none, errW_some] <;> rfl), by repeat (first | (with_reducible first | exact HB.out | apply below_alloc | apply pw_below_drewN | apply below_drew1) | exact HB.out)⟩
    · rw [if_neg c5] at H
      have c5b0 : decide (a1 < 1) = false := decide_eq_false c5
      clear c5
      by_cases c7 : a1 > 400
      · rw [if_pos c7] at H
        have c7b0 : decide (400 < a1) = true := decide_eq_true c7
        clear c7
        obtain rfl := Option.some.inj H
        go_enter Try.func62, Try.ntmps62
        go_wp2_with (first | ((with_reducible refine gate_callee (f := 49) rfl ?_); refine goesL_ (some 7) rfl rfl Try.func49 (by kernel_rfl) rfl #[.slice A0 l0.length c0] rfl (by (try simp only [List.map_toArray, List.map_cons, List.map_nil]); first | done | rfl | (simp only [List.length_drop, List.length_take]; rfl)) ?_; (with_reducible refine (impl_hullsCode.calls k _ _ l0 t222 _ ?side1 ?side2 A3.out).mono ?_); (case side1 => repeat (first | exact HR0.out | (with_reducible refine Kd.C_alloc ?_ _) | (with_reducible refine Kd.C_drewN ?_ _) | (with_reducible refine Kd.C_drew ?_))); (case side2 => exact HC0.out); rintro e w8 ⟨rfl, hb⟩; refine ⟨_, rfl, ?_⟩; have n0_ := Aside0.mk (below_step (by repeat (first | (with_reducible first | exact HB.out | apply below_alloc | apply pw_below_drewN | apply below_drew1) | exact HB.out)) hb); clear HB; have HB := n0_; clear n0_; (try clear hb); (try clear hb2); (try clear hk); (try clear hi)))
        go_ret
        exact ⟨by first | rfl | (simp [errW_none, errW_some] <;> rfl) | (simp [*, errW_none, errW_some] <;> rfl), by repeat (first | (with_reducible first | exact HB.out | apply below_alloc | apply pw_below_drewN | apply below_drew1) | exact HB.out)⟩
      · rw [if_neg c7] at H
        have c7b0 : decide (400 < a1) = false := decide_eq_false c7
        clear c7
        obtain rfl := Option.some.inj H
        go_enter Try.func62, Try.ntmps62
        go_wp2_with (first | ((with_reducible refine gate_callee (f := 49) rfl ?_); refine goesL_ (some 7) rfl rfl Try.func49 (by kernel_rfl) rfl #[.slice A0 l0.length c0] rfl (by (try simp only [List.map_toArray, List.map_cons, List.map_nil]); first | done | rfl | (simp only [List.length_drop, List.length_take]; rfl)) ?_; (with_reducible refine (impl_hullsCode.calls k _ _ l0 t222 _ ?side1 ?side2 A3.out).mono ?_); (case side1 => repeat (first | exact HR0.out | (with_reducible refine Kd.C_alloc ?_ _) | (with_reducible refine Kd.C_drewN ?_ _) | (with_reducible refine Kd.C_drew ?_))); (case side2 => exact HC0.out); rintro e w9 ⟨rfl, hb⟩; refine ⟨_, rfl, ?_⟩; have n0_ := Aside0.mk (below_step (by repeat (first | (with_reducible first | exact HB.out | apply below_alloc | apply pw_below_drewN | apply below_drew1) | exact HB.out)) hb); clear HB; have HB := n0_; clear n0_; (try clear hb); (try clear hb2); (try clear hk); (try clear hi)))
        go_ret
        exact ⟨by first | rfl | (simp [errW_none, errW_some] <;> rfl) | (simp [*, errW_none, errW_some] <;> rfl), by repeat (first | (with_reducible first | exact HB.out | apply below_alloc | apply pw_below_drewN | apply below_drew1) | exact HB.out)⟩
  · rw [if_neg c4] at H
    have c4b0 : (t222 == 0) = false := beq_eq_false_iff_ne.mpr c4
    have c4b1 : (t222 != 0) = true := bne_iff_ne.mpr c4
    obtain rfl := Option.some.inj H
    go_enter Try.func62, Try.ntmps62
    go_wp2_with (first | ((with_reducible refine gate_callee (f := 49) rfl ?_); refine goesL_ (some 7) rfl rfl Try.func49 (by kernel_rfl) rfl #[.slice A0 l0.length c0] rfl (by (try simp only [List.map_toArray, List.map_cons, List.map_nil]); first | done | rfl | (simp only [List.length_drop, List.length_take]; rfl)) ?_; (with_reducible refine (impl_hullsCode.calls k _ _ l0 t222 _ ?side1 ?side2 A3.out).mono ?_); (case side1 => repeat (first | exact HR0.out | (with_reducible refine Kd.C_alloc ?_ _) | (with_reducible refine Kd.C_drewN ?_ _) | (with_reducible refine Kd.C_drew ?_))); (case side2 => exact HC0.out); rintro e w10 ⟨rfl, hb⟩; refine ⟨_, rfl, ?_⟩; have n0_ := Aside0.mk (below_step (by repeat (first | (with_reducible first | exact HB.out | apply below_alloc | apply pw_below_drewN | apply below_drew1) | exact HB.out)) hb); clear HB; have HB := n0_; clear n0_; (try clear hb); (try clear hb2); (try clear hk); (try clear hi)))
    go_ret
    exact ⟨by first | rfl | (simp [errW_none, errW_some] <;> rfl) | (simp [*, errW_none, errW_some] <;> rfl), by repeat (first | (with_reducible first | exact HB.out | apply below_alloc | apply pw_below_drewN | apply below_drew1) | exact HB.out)⟩

/-! ### impl_mayLie: function 92 -/
def impl_mayLie.f (a0_0 : Int) (a0_1 : Int) (a0_2 : Int) (a1_0 : Int) (a1_1 : Int) (a1_2 : Int) : Option (Bool) := if (IntKind.i8.wrap (a0_2 - a1_2)) ≥ (-2) then (if (IntKind.i8.wrap (a0_2 - a1_2)) ≤ 2 then (some (decide ((wrap64 (a1_1)) ≤ (wrap64 ((wrap64 (a0_1)) + 3))))) else (some false)) else (some false)
set_option maxHeartbeats 8000000 in
set_option maxRecDepth 100000 in
theorem impl_mayLie.calls (a0_0 : Int) (a0_1 : Int) (a0_2 : Int) (a1_0 : Int) (a1_1 : Int) (a1_2 : Int) (r : Bool) (w : World) (h : impl_mayLie.f a0_0 a0_1 a0_2 a1_0 a1_1 a1_2 = some r) :
    Calls Try.prog 92 #[.agg #[.int .i8 a0_0, .int .i8 a0_1, .int .i8 a0_2], .agg #[.int .i8 a1_0, .int .i8 a1_1, .int .i8 a1_2]] w fun e w' => e = .returned (.bool r) ∧ Below w.heap.size w w' := by
  have hu59 := Try.underlying59
  have HB := Aside0.mk (Below.refl w.heap.size w)
  have H : (if (IntKind.i8.wrap (a0_2 - a1_2)) ≥ (-2) then (if (IntKind.i8.wrap (a0_2 - a1_2)) ≤ 2 then (some (decide ((wrap64 (a1_1)) ≤ (wrap64 ((wrap64 (a0_1)) + 3))))) else (some false)) else (some false)) = some r := h
  clear h
  by_cases c3 : (IntKind.i8.wrap (a0_2 - a1_2)) ≥ (-2)
  · rw [if_pos c3] at H
    have c3b0 : decide ((-2) ≤ (IntKind.i8.wrap (a0_2 - a1_2))) = true := decide_eq_true c3
    clear c3
    by_cases c4 : (IntKind.i8.wrap (a0_2 - a1_2)) ≤ 2
    · rw [if_pos c4] at H
      have c4b0 : decide ((IntKind.i8.wrap (a0_2 - a1_2)) ≤ 2) = true := decide_eq_true c4
      clear c4
      obtain rfl := Option.some.inj H
      go_enter Try.func92, Try.ntmps92
      go_wp2_with (first | ((with_reducible refine gate_dst (N := 2) rfl ?_); refine box_event ?hg (N := 2) ?hd (cs := #[.int .i8 a0_0, .int .i8 a0_1, .int .i8 a0_2]) (t := 59) ?hr ?_; (case hd => rfl); (case hg => rfl); (case hr => first | (go_simp; done) | (go_simp; rfl)); intro gb223 hg w5 hbox hb; have n0_ := Aside0.mk (below_step (by repeat (first | (with_reducible first | exact HB.out | apply below_alloc | apply pw_below_drewN | apply below_drew1) | exact HB.out)) hb); have n1_ := Aside0.mk (hbox); have n2_ := Aside0.mk ((by rw [hg]; exact (below_size (by repeat (first | (with_reducible first | exact HB.out | apply below_alloc | apply pw_below_drewN | apply below_drew1) | exact HB.out))) : w.heap.size ≤ gb223)); have n3_ := Aside0.mk ((by rw [hg]; exact (below_size (by repeat (first | (with_reducible first | exact HB.out | apply below_alloc | apply pw_below_drewN | apply below_drew1) | exact HB.out))) : w.heap.size ≤ gb223)); clear HB; have HB := n0_; have BK223 := n1_; have GW223 := n2_; have GE223 := n3_; clear n0_ n1_ n2_ n3_; clear hb hbox hg) | ((with_reducible refine gate_dst (N := 3) rfl ?_); refine box_event ?hg (N := 3) ?hd (cs := #[.int .i8 a1_0, .int .i8 a1_1, .int .i8 a1_2]) (t := 59) ?hr ?_; (case hd => rfl); (case hg => rfl); (case hr => first | (go_simp; done) | (go_simp; rfl)); intro gb224 hg w6 hbox hb; have n0_ := Aside0.mk (blk_below (g := gb223) (o := .cells #[.int .i8 a0_0, .int .i8 a0_1, .int .i8 a0_2] 59 (0, 0)) (by (with_reducible repeat (first | refine blk_drewN ?_ _ | refine blk_drew ?_ | refine blk_alloc ?_ _)); exact BK223.out) hb); have n1_ := Aside0.mk (below_step (by repeat (first | (with_reducible first | exact HB.out | apply below_alloc | apply pw_below_drewN | apply below_drew1 | refine below_set ?_ GE223.out) | exact HB.out)) hb); have n2_ := Aside0.mk (hbox); have n3_ := Aside0.mk ((by rw [hg]; exact (below_size (by repeat (first | (with_reducible first | exact HB.out | apply below_alloc | apply pw_below_drewN | apply below_drew1 | refine below_set ?_ GE223.out) | exact HB.out))) : w.heap.size ≤ gb224)); have n4_ := Aside0.mk ((by rw [hg]; exact (below_size (by repeat (first | (with_reducible first | exact HB.out | apply below_alloc | apply pw_below_drewN | apply below_drew1 | refine below_set ?_ GE223.out) | exact HB.out))) : w.heap.size ≤ gb224)); have n5_ := Aside0.mk ((by rw [hg]; exact Nat.ne_of_lt (blk_lt (g := gb223) (o := .cells #[.int .i8 a0_0, .int .i8 a0_1, .int .i8 a0_2] 59 (0, 0)) (by (with_reducible repeat (first | refine blk_drewN ?_ _ | refine blk_drew ?_ | refine blk_alloc ?_ _)); exact BK223.out)) : gb223 ≠ gb224)); have n6_ := Aside0.mk ((by rw [hg]; exact Nat.ne_of_gt (blk_lt (g := gb223) (o := .cells #[.int .i8 a0_0, .int .i8 a0_1, .int .i8 a0_2] 59 (0, 0)) (by (with_reducible repeat (first | refine blk_drewN ?_ _ | refine blk_drew ?_ | refine blk_alloc ?_ _)); exact BK223.out)) : gb224 ≠ gb223)); clear BK223; clear HB; have BK223 := n0_; have HB := n1_; have BK224 := n2_; have GW224 := n3_; have GE224 := n4_; have NB223_224 := n5_; have NB224_223 := n6_; clear n0_ n1_ n2_ n3_ n4_ n5_ n6_; clear hb hbox hg; have hnb7 := NB223_224.out; have hnc7 := NB224_223.out; have hcz8_0 : w6.cell? ⟨gb223, 0, none⟩ = some (.int .i8 a0_0) := (blk_cell BK223.out 0).trans rfl; have hcz8_1 : w6.cell? ⟨gb223, 1, none⟩ = some (.int .i8 a0_1) := (blk_cell BK223.out 1).trans rfl; have hcz8_2 : w6.cell? ⟨gb223, 2, none⟩ = some (.int .i8 a0_2) := (blk_cell BK223.out 2).trans rfl; have hfz8_0 := blk_frozen BK223.out 0; have hfz8_1 := blk_frozen BK223.out 1; have hfz8_2 := blk_frozen BK223.out 2; have hcz9_0 : w6.cell? ⟨gb224, 0, none⟩ = some (.int .i8 a1_0) := (blk_cell BK224.out 0).trans rfl; have hcz9_1 : w6.cell? ⟨gb224, 1, none⟩ = some (.int .i8 a1_1) := (blk_cell BK224.out 1).trans rfl; have hcz9_2 : w6.cell? ⟨gb224, 2, none⟩ = some (.int .i8 a1_2) := (blk_cell BK224.out 2).trans rfl; have hfz9_0 := blk_frozen BK224.out 0; have hfz9_1 := blk_frozen BK224.out 1; have hfz9_2 := blk_frozen BK224.out 2))
      go_ret
      exact ⟨by first | rfl | (simp [errW_none, errW_some] <;> rfl) | (simp [*, errW_none, errW_some] <;> rfl), by repeat (first | (with_reducible first | exact HB.out | apply below_alloc | apply pw_below_drewN | apply below_drew1 | refine below_set ?_ GE223.out | refine below_set ?_ GE224.out) | exact HB.out)⟩
    · rw [if_neg c4] at H
      have c4b0 : decide ((IntKind.i8.wrap (a0_2 - a1_2)) ≤ 2) = false := decide_eq_false c4
      clear c4
      obtain rfl := Option.some.inj H
      go_enter Try.func92, Try.ntmps92
      go_wp2_with (first | ((with_reducible refine gate_dst (N := 2) rfl ?_); refine box_event ?hg (N := 2) ?hd (cs := #[.int .i8 a0_0, .int .i8 a0_1, .int .i8 a0_2]) (t := 59) ?hr ?_; (case hd => rfl); (case hg => rfl); (case hr => first | (go_simp; done) | (go_simp; rfl)); intro gb223 hg w10 hbox hb; have n0_ := Aside0.mk (below_step (by repeat (first | (with_reducible first | exact HB.out | apply below_alloc | apply pw_below_drewN | apply below_drew1) | exact HB.out)) hb); have n1_ := Aside0.mk (hbox); have n2_ := Aside0.mk ((by rw [hg]; exact (below_size (by repeat (first | (with_reducible first | exact HB.out | apply below_alloc | apply pw_below_drewN | apply below_drew1) | exact HB.out))) : w.heap.size ≤ gb223)); have n3_ := Aside0.mk ((by rw [hg]; exact (below_size (by repeat (first | (with_reducible first | exact HB.out | apply below_alloc | apply pw_below_drewN | apply below_drew1) | exact HB.out))) : w.heap.size ≤ gb223)); clear HB; have HB := n0_; have BK223 := n1_; have GW223 := n2_; have GE223 := n3_; clear n0_ n1_ n2_ n3_; clear hb hbox hg) | ((with_reducible refine gate_dst (N := 3) rfl ?_); refine box_event ?hg (N := 3) ?hd (cs := #[.int .i8 a1_0, .int .i8 a1_1, .int .i8 a1_2]) (t := 59) ?hr ?_; (case hd => rfl); (case hg => rfl); (case hr => first | (go_simp; done) | (go_simp; rfl)); intro gb224 hg w11 hbox hb; have n0_ := Aside0.mk (blk_below (g := gb223) (o := .cells #[.int .i8 a0_0, .int .i8 a0_1, .int .i8 a0_2] 59 (0, 0)) (by (with_reducible repeat (first | refine blk_drewN ?_ _ | refine blk_drew ?_ | refine blk_alloc ?_ _)); exact BK223.out) hb); have n1_ := Aside0.mk (below_step (by repeat (first | (with_reducible first | exact HB.out | apply below_alloc | apply pw_below_drewN | apply below_drew1 | refine below_set ?_ GE223.out) | exact HB.out)) hb); have n2_ := Aside0.mk (hbox); have n3_ := Aside0.mk ((by rw [hg]; exact (below_size (by repeat (first | (with_reducible first | exact HB.out | apply below_alloc | apply pw_below_drewN | apply below_drew1 | refine below_set ?_ GE223.out) | exact HB.out))) : w.heap.size ≤ gb224)); have n4_ := Aside0.mk ((by rw [hg]; exact (below_size (by repeat (first | (with_reducible first | exact HB.out | apply below_alloc | apply pw_below_drewN | apply below_drew1 | refine below_set ?_ GE223.out) | exact HB.out))) : w.heap.size ≤ gb224)); have n5_ := Aside0.mk ((by rw [hg]; exact Nat.ne_of_lt (blk_lt (g := gb223) (o := .cells #[.int .i8 a0_0, .int .i8 a0_1, .int .i8 a0_2] 59 (0, 0)) (by (with_reducible repeat (first | refine blk_drewN ?_ _ | refine blk_drew ?_ | refine blk_alloc ?_ _)); exact BK223.out)) : gb223 ≠ gb224)); have n6_ := Aside0.mk ((by rw [hg]; exact Nat.ne_of_gt (blk_lt (g := gb223) (o := .cells #[.int .i8 a0_0, .int .i8 a0_1, .int .i8 a0_2] 59 (0, 0)) (by (with_reducible repeat (first | refine blk_drewN ?_ _ | refine blk_drew ?_ | refine blk_alloc ?_ _)); exact BK223.out)) : gb224 ≠ gb223)); clear BK223; clear HB; have BK223 := n0_; have HB := n1_; have BK224 := n2_; have GW224 := n3_; have GE224 := n4_; have NB223_224 := n5_; have NB224_223 := n6_; clear n0_ n1_ n2_ n3_ n4_ n5_ n6_; clear hb hbox hg; have hnb12 := NB223_224.out; have hnc12 := NB224_223.out; have hcz13_0 : w11.cell? ⟨gb223, 0, none⟩ = some (.int .i8 a0_0) := (blk_cell BK223.out 0).trans rfl; have hcz13_1 : w11.cell? ⟨gb223, 1, none⟩ = some (.int .i8 a0_1) := (blk_cell BK223.out 1).trans rfl; have hcz13_2 : w11.cell? ⟨gb223, 2, none⟩ = some (.int .i8 a0_2) := (blk_cell BK223.out 2).trans rfl; have hfz13_0 := blk_frozen BK223.out 0; have hfz13_1 := blk_frozen BK223.out 1; have hfz13_2 := blk_frozen BK223.out 2; have hcz14_0 : w11.cell? ⟨gb224, 0, none⟩ = some (.int .i8 a1_0) := (blk_cell BK224.out 0).trans rfl; have hcz14_1 : w11.cell? ⟨gb224, 1, none⟩ = some (.int .i8 a1_1) := (blk_cell BK224.out 1).trans rfl; have hcz14_2 : w11.cell? ⟨gb224, 2, none⟩ = some (.int .i8 a1_2) := (blk_cell BK224.out 2).trans rfl; have hfz14_0 := blk_frozen BK224.out 0; have hfz14_1 := blk_frozen BK224.out 1; have hfz14_2 := blk_frozen BK224.out 2))
      go_ret
      exact ⟨by first | rfl | (simp [errW_none, errW_some] <;> rfl) | (simp [*, errW_none, errW_some] <;> rfl), by repeat (first | (with_reducible first | exact HB.out | apply below_alloc | apply pw_below_drewN | apply below_drew1 | refine below_set ?_ GE223.out | refine below_set ?_ GE224.out) | exact HB.out)⟩
  · rw [if_neg c3] at H
    have c3b0 : decide ((-2) ≤ (IntKind.i8.wrap (a0_2 - a1_2))) = false := decide_eq_false c3
    clear c3
    obtain rfl := Option.some.inj H
    go_enter Try.func92, Try.ntmps92
    go_wp2_with (first | ((with_reducible refine gate_dst (N := 2) rfl ?_); refine box_event ?hg (N := 2) ?hd (cs := #[.int .i8 a0_0, .int .i8 a0_1, .int .i8 a0_2]) (t := 59) ?hr ?_; (case hd => rfl); (case hg => rfl); (case hr => first | (go_simp; done) | (go_simp; rfl)); intro gb223 hg w15 hbox hb; have n0_ := Aside0.mk (below_step (by repeat (first | (with_reducible first | exact HB.out | apply below_alloc | apply pw_below_drewN | apply below_drew1) | exact HB.out)) hb); have n1_ := Aside0.mk (hbox); have n2_ := Aside0.mk ((by rw [hg]; exact (below_size (by repeat (first | (with_reducible first | exact HB.out | apply below_alloc | apply pw_below_drewN | apply below_drew1) | exact HB.out))) : w.heap.size ≤ gb223)); have n3_ := Aside0.mk ((by rw [hg]; exact (below_size (by repeat (first | (with_reducible first | exact HB.out | apply below_alloc | apply pw_below_drewN | apply below_drew1) | exact HB.out))) : w.heap.size ≤ gb223)); clear HB; have HB := n0_; have BK223 := n1_; have GW223 := n2_; have GE223 := n3_; clear n0_ n1_ n2_ n3_; clear hb hbox hg) | ((with_reducible refine gate_dst (N := 3) rfl ?_); refine box_event ?hg (N := 3) ?hd (cs := #[.int .i8 a1_0, .int .i8 a1_1, .int .i8 a1_2]) (t := 59) ?hr ?_; (case hd => rfl); (case hg => rfl); (case hr => first | (go_simp; done) | (go_simp; rfl)); intro gb224 hg w16 hbox hb; have n0_ := Aside0.mk (blk_below (g := gb223) (o := .cells #[.int .i8 a0_0, .int .i8 a0_1, .int .i8 a0_2] 59 (0, 0)) (by (with_reducible repeat (first | refine blk_drewN ?_ _ | refine blk_drew ?_ | refine blk_alloc ?_ _)); exact BK223.out) hb); have n1_ := Aside0.mk (below_step (by repeat (first | (with_reducible first | exact HB.out | apply below_alloc | apply pw_below_drewN | apply below_drew1 | refine below_set ?_ GE223.out) | exact HB.out)) hb); have n2_ := Aside0.mk (hbox); have n3_ := Aside0.mk ((by rw [hg]; exact (below_size (by repeat (first | (with_reducible first | exact HB.out | apply below_alloc | apply pw_below_drewN | apply below_drew1 | refine below_set ?_ GE223.out) | exact HB.out))) : w.heap.size ≤ gb224)); have n4_ := Aside0.mk ((by rw [hg]; exact (below_size (by repeat (first | (with_reducible first | exact HB.out | apply below_alloc | apply pw_below_drewN | apply below_drew1 | refine below_set ?_ GE223.out) | exact HB.out))) : w.heap.size ≤ gb224)); have n5_ := Aside0.mk ((by rw [hg]; exact Nat.ne_of_lt (blk_lt (g := gb223) (o := .cells #[.int .i8 a0_0, .int .i8 a0_1, .int .i8 a0_2] 59 (0, 0)) (by (with_reducible repeat (first | refine blk_drewN ?_ _ | refine blk_drew ?_ | refine blk_alloc ?_ _)); exact BK223.out)) : gb223 ≠ gb224)); have n6_ := Aside0.mk ((by rw [hg]; exact Nat.ne_of_gt (blk_lt (g := gb223) (o := .cells #[.int .i8 a0_0, .int .i8 a0_1, .int .i8 a0_2] 59 (0, 0)) (by (with_reducible repeat (first | refine blk_drewN ?_ _ | refine blk_drew ?_ | refine blk_alloc ?_ _)); exact BK223.out)) : gb224 ≠ gb223)); clear BK223; clear HB; have BK223 := n0_; have HB := n1_; have BK224 := n2_; have GW224 := n3_; have GE224 := n4_; have NB223_224 := n5_; have NB224_223 := n6_; clear n0_ n1_ n2_ n3_ n4_ n5_ n6_; clear hb hbox hg; have hnb17 := NB223_224.out; have hnc17 := NB224_223.out; have hcz18_0 : w16.cell? ⟨gb223, 0, none⟩ = some (.int .i8 a0_0) := (blk_cell BK223.out 0).trans rfl; have hcz18_1 : w16.cell? ⟨gb223, 1, none⟩ = some (.int .i8 a0_1) := (blk_cell BK223.out 1).trans rfl; have hcz18_2 : w16.cell? ⟨gb223, 2, none⟩ = some (.int .i8 a0_2) := (blk_cell BK223.out 2).trans rfl; have hfz18_0 := blk_frozen BK223.out 0; have hfz18_1 := blk_frozen BK223.out 1; have hfz18_2 := blk_frozen BK223.out 2; have hcz19_0 : w16.cell? ⟨gb224, 0, none⟩ = some (.int .i8 a1_0) := (blk_cell BK224.out 0).trans rfl; have hcz19_1 : w16.cell? ⟨gb224, 1, none⟩ = some (.int .i8 a1_1) := (blk_cell BK224.out 1).trans rfl; have hcz19_2 : w16.cell? ⟨gb224, 2, none⟩ = some (.int .i8 a1_2) := (blk_cell BK224.out 2).trans rfl; have hfz19_0 := blk_frozen BK224.out 0; have hfz19_1 := blk_frozen BK224.out 1; have hfz19_2 := blk_frozen BK224.out 2))
    go_ret
    exact ⟨by first | rfl | (simp [errW_none, errW_some] <;> rfl) | (simp [*, errW_none, errW_some] <;> rfl), by repeat (first | (with_reducible first | exact HB.out | apply below_alloc | apply pw_below_drewN | apply below_drew1 | refine below_set ?_ GE223.out | refine below_set ?_ GE224.out) | exact HB.out)⟩

end Go.Proofs.Ytpimdgkofgendaa.PFnExactShortestQuay
