/- Printed by this session's plus.py out of the translation, some functions' texts being this session's own. -/
import Derived.Test.YtpimdgkofgendaaPFnExactFewestTripsx0
import Derived.Test.YtpimdgkofgendaaPFnExactFewestTripsx1
namespace Go.Proofs.Ytpimdgkofgendaa.PFnExactFewestTrips
open Go.RowKit Go.Proofs.YtpimdgkofgendaaW.PrintWords Go.Proofs.YtpimdgkofgendaaW.PrintLast Go.Proofs.YtpimdgkofgendaaW.PrintMore
attribute [local go_sem] max2_int min2_int max_two min_two max_three min_three max_four min_four   -- for this text's walks alone
set_option linter.unusedVariables false
set_option linter.unusedSimpArgs false

/-! ### spec_l05Parts_from: function 71: this session's own text -/
theorem infoI64 : (Try.prog.info? 2).map (fun i => (i.zero, i.size, i.bytes)) = some (some (.int .i64 0), 1, 8) := by kernel_rfl

/-- W' is W but for the blocks that S tells, and for new ones. -/
structure Only (S : Nat → Prop) (W W' : World) : Prop where
  os : W'.os = W.os
  tape : W'.tape = W.tape
  output : W'.output = W.output
  size : W.heap.size ≤ W'.heap.size
  block : ∀ b, b < W.heap.size → ¬ S b → W'.heap[b]? = W.heap[b]?
theorem Only.refl (S : Nat → Prop) (W : World) : Only S W W := ⟨rfl, rfl, rfl, Nat.le_refl _, fun _ _ _ => rfl⟩
theorem Only.trans {S : Nat → Prop} {a b c : World} (h : Only S a b) (k : Only S b c) : Only S a c :=
  ⟨k.os.trans h.os, k.tape.trans h.tape, k.output.trans h.output, Nat.le_trans h.size k.size, fun i hi hs => (k.block i (Nat.lt_of_lt_of_le hi h.size) hs).trans (h.block i hi hs)⟩
theorem Only.mono {S S' : Nat → Prop} {a b : World} (h : Only S a b) (hs : ∀ i, S i → S' i) : Only S' a b := ⟨h.os, h.tape, h.output, h.size, fun i hi hn => h.block i hi (fun g => hn (hs i g))⟩
theorem Only.of_below {S : Nat → Prop} {a b : World} (h : Below a.heap.size a b) : Only S a b := ⟨h.os, h.tape, h.output, h.size, fun i hi _ => h.block i hi⟩
theorem Only.set {S : Nat → Prop} {a b : World} (h : Only S a b) {g : Nat} (hg : S g) (j : Nat) (v : Value) : Only S a (b.setCell ⟨g, j, none⟩ v) :=
  h.trans ⟨rfl, rfl, rfl, by simp [World.setCell], fun i hi hn => Below.heap_setCell _ _ _ _ (fun e => hn (by subst e; exact hg))⟩
theorem Only.alloc {S : Nat → Prop} {a b : World} (h : Only S a b) (o : Obj) : Only S a (b.alloc o) := h.trans (Only.of_below ((Below.refl _ _).alloc (Nat.le_refl _) o))
theorem Only.drewN {S : Nat → Prop} {a b : World} (h : Only S a b) (n : Nat) : Only S a (b.drewN n) := h.trans (Only.of_below (pw_below_drewN (Below.refl _ _) n))
theorem Only.drew {S : Nat → Prop} {a b : World} (h : Only S a b) : Only S a b.drew := h.trans (Only.of_below (below_drew (Below.refl _ _)))
theorem Only.blk {S : Nat → Prop} {a b : World} (h : Only S a b) {g : Nat} {o : Obj} (ho : a.heap[g]? = some o) (hg : ¬ S g) : b.heap[g]? = some o := (h.block g (blk_lt ho) hg).trans ho
theorem Only.below {S : Nat → Prop} {w a b : World} {B : Nat} (hb : Below B w a) (h : Only S a b) (hB : B ≤ a.heap.size) (hs : ∀ i, S i → B ≤ i) : Below B w b :=
  hb.trans ⟨h.os, h.tape, h.output, h.size, fun i hi => h.block i (by omega) (fun g => by have := hs i g; omega)⟩
theorem Only.to_below {S : Nat → Prop} {a b : World} (h : Only S a b) (hs : ∀ i, ¬ S i) : Below a.heap.size a b := ⟨h.os, h.tape, h.output, h.size, fun i hi => h.block i hi (hs i)⟩

theorem own_step {W W' : World} {B : Nat} {v : Value} {xs : List Int} (h : Kd.R (Kd.int .i64) 2 W B (fun _ => True) v xs) (hm : ∀ k, B ≤ k → k < W.heap.size → W'.heap[k]? = W.heap[k]?) : Kd.R (Kd.int .i64) 2 W' B (fun _ => True) v xs :=
  Kd.R_mono (Kd.R_step (Kd.R_bound h) (fun k hk hlt => hm k hk.2.1 hlt)) (fun _ _ => trivial)
theorem own_only {S : Nat → Prop} {W W' : World} {B : Nat} {v : Value} {xs : List Int} (h : Kd.R (Kd.int .i64) 2 W B (fun _ => True) v xs) (k : Only S W W') (hs : ∀ i, S i → i < B) : Kd.R (Kd.int .i64) 2 W' B (fun _ => True) v xs :=
  own_step h (fun i hi hlt => k.block i hlt (fun g => by have := hs i g; omega))

/-- All partings that go on from one that has been begun, d hulls being left, many rafts having been begun; each with its number of rafts. -/
def parts : Nat → List Int → Nat → List (List Int × Int)
  | 0, now, many => [(now, (many : Int))]
  | d + 1, now, many => (List.range (many + 1)).flatMap fun (k : Nat) => parts d (now ++ [(k : Int)]) (max many (k + 1))
/-- A function called for one parting after the other. -/
def runP {σ : Type} (st : σ → List Int → Int → σ) (s : σ) (qs : List (List Int × Int)) : σ := qs.foldl (fun s q => st s q.1 q.2) s
theorem runP_append {σ : Type} (st : σ → List Int → Int → σ) (s : σ) (a b : List (List Int × Int)) : runP st s (a ++ b) = runP st (runP st s a) b := by simp [runP]
def partRest (d : Nat) (now : List Int) (many i : Nat) : List (List Int × Int) := ((List.range (many + 1)).drop i).flatMap fun (k : Nat) => parts d (now ++ [(k : Int)]) (max many (k + 1))
theorem partRest_zero (d : Nat) (now : List Int) (many : Nat) : partRest d now many 0 = parts (d + 1) now many := rfl
theorem partRest_step {d : Nat} {now : List Int} {many i : Nat} (h : i ≤ many) : partRest d now many i = parts d (now ++ [(i : Int)]) (max many (i + 1)) ++ partRest d now many (i + 1) := by
  unfold partRest
  rw [List.drop_eq_getElem_cons (by simp; omega), List.flatMap_cons]
  simp
theorem partRest_end {d : Nat} {now : List Int} {many i : Nat} (h : many < i) : partRest d now many i = [] := by
  unfold partRest
  rw [List.drop_eq_nil_of_le (by simp; omega)]
  rfl

/-- An empty row that a literal has made. -/
theorem empty_lit {W : World} {base : Nat} {e : TypeId} (h : base ≤ W.heap.size) : Kd.R (Kd.int .i64) e (W.alloc (.cells #[] e)) base (fun _ => True) (.slice (some ⟨W.heap.size, 0, none⟩) 0 0) [] :=
  Kd.R_of_own (enc := Value.int .i64) (h1 := fun _ => rfl) (xs := []) ⟨by simp [encs], .inr ⟨W.heap.size, 0, #[], rfl, h, blk_new W _, Nat.le_refl _, by unfold maxLen; omega, by simp, by simp [encs]⟩⟩ (fun _ _ => trivial)

/-- The prefix is right. -/
def rightP (s : Int) (l : List S90) (o : List Int) : Bool := (spec_l05Right.f s (l.take o.length) o).getD false
/-- The partings whose prefixes all are right. -/
def partsR (s : Int) (l : List S90) : Nat → List Int → Nat → List (List Int × Int)
  | 0, now, many => [(now, (many : Int))]
  | d + 1, now, many => (List.range (many + 1)).flatMap fun (k : Nat) => if rightP s l (now ++ [(k : Int)]) = true then partsR s l d (now ++ [(k : Int)]) (max many (k + 1)) else []
def partRR (s : Int) (l : List S90) (d : Nat) (now : List Int) (many i : Nat) : List (List Int × Int) := ((List.range (many + 1)).drop i).flatMap fun (k : Nat) => if rightP s l (now ++ [(k : Int)]) = true then partsR s l d (now ++ [(k : Int)]) (max many (k + 1)) else []
theorem partRR_step {s : Int} {l : List S90} {d : Nat} {now : List Int} {many i : Nat} (h : i ≤ many) : partRR s l d now many i = (if rightP s l (now ++ [(i : Int)]) = true then partsR s l d (now ++ [(i : Int)]) (max many (i + 1)) else []) ++ partRR s l d now many (i + 1) := by
  unfold partRR
  rw [List.drop_eq_getElem_cons (by simp; omega), List.flatMap_cons]
  simp
theorem partRR_end {s : Int} {l : List S90} {d : Nat} {now : List Int} {many i : Nat} (h : many < i) : partRR s l d now many i = [] := by
  unfold partRR
  rw [List.drop_eq_nil_of_le (by simp; omega)]
  rfl
def fromSt (s : List Int × Int × Bool) (o : List Int) (m : Int) : List Int × Int × Bool := if s.2.2 = false ∨ m < s.2.1 then (o, m, true) else s
def boxP (A1 : Option Addr) (n c1 : Nat) (a0 : Int) (v : Value) (least : Int) (found : Bool) : List Value := .int .i64 a0 :: .slice A1 n c1 :: (List.replicate 49 (.int .i64 0) ++ [.bool false, v, .int .i64 least, .bool found])
def FInv (w0 : World) (A1 : Option Addr) (n c1 : Nat) (a0 : Int) (b : Nat) (s : List Int × Int × Bool) (W : World) : Prop :=
  Below w0.heap.size w0 W ∧ ∃ v, W.heap[b]? = some (.cells (boxP A1 n c1 a0 v s.2.1 s.2.2).toArray 85 (0, 0)) ∧ Kd.R (Kd.int .i64) 2 W (b + 1) (fun _ => True) v s.1
theorem FInv.below {w0 : World} {A1 : Option Addr} {n c1 : Nat} {a0 : Int} {b : Nat} {s : List Int × Int × Bool} {W W' : World} (h : FInv w0 A1 n c1 a0 b s W) (hb : Below W.heap.size W W') : FInv w0 A1 n c1 a0 b s W' := by
  obtain ⟨h1, v, h2, h3⟩ := h
  exact ⟨h1.trans (hb.mono h1.size), v, blk_below h2 hb, Kd.R_below h3 hb⟩
set_option maxHeartbeats 4000000 in
set_option maxRecDepth 100000 in
theorem from_leaf (w0 : World) (A1 : Option Addr) (c1 : Nat) (l1 : List S90) (a0 : Int) (b : Nat) (hb0 : w0.heap.size ≤ b) (h7 : l1.length ≤ 7) (now : List Int) (many : Nat) (hn : now.length = l1.length) (s : List Int × Int × Bool) (W : World) (v : Value) (hI : FInv w0 A1 l1.length c1 a0 b s W) (hR : Kd.R (Kd.int .i64) 2 W (b + 1) (fun _ => True) v now) :
    Calls Try.prog 71 #[.pointer (some ⟨b, 0, none⟩), v, .int .i64 (many : Int)] W fun e W' => e = .returned (.tuple #[]) ∧ FInv w0 A1 l1.length c1 a0 b (fromSt s now many) W' ∧ Only (· = b) W W' := by
  have hu := Try.underlying85
  obtain ⟨best, least, found⟩ := s
  have hI0 := Aside0.mk hI
  obtain ⟨h1, vb, h2, h3⟩ := hI
  obtain ⟨A2, c2, rfl, hc2, hr2⟩ := Kd.R_reads hR
  have H1 := Aside0.mk h1
  have H2 := Aside0.mk h2
  have H3 := Aside0.mk h3
  have HR2 := Aside0.mk (And.intro hr2 hc2)
  have hx1 : W.cell? ⟨b, 1, none⟩ = some (.slice A1 l1.length c1) := blk_cell h2 1
  have hx51 : W.cell? ⟨b, 51, none⟩ = some (.bool false) := blk_cell h2 51
  have hx53 : W.cell? ⟨b, 53, none⟩ = some (.int .i64 least) := blk_cell h2 53
  have hx54 : W.cell? ⟨b, 54, none⟩ = some (.bool found) := blk_cell h2 54
  have hlb : ((now.length : Int) == (l1.length : Int)) = true := beq_iff_eq.mpr (by omega)
  have HN := Aside0.mk (And.intro hn h7)
  have HBW := Aside0.mk (And.intro hb0 (blk_lt h2))
  have HB := Aside0.mk (Below.refl W.heap.size W)
  clear h1 h2 h3 hr2 hc2 hR hn h7 hb0
  by_cases hc : found = false ∨ (many : Int) < least
  · have HST : Aside0 (fromSt (best, least, found) now many = (now, (many : Int), true)) := ⟨by unfold fromSt; rw [if_pos hc]⟩
    have HLIT := Aside0.mk (empty_lit (W := W) (base := W.heap.size) (e := 2) (Nat.le_refl _))
    have hcd : found = false ∨ (found = true ∧ decide ((many : Int) < least) = true) := by
      cases found
      · exact .inl rfl
      · exact .inr ⟨rfl, decide_eq_true (by rcases hc with h | h; cases h; exact h)⟩
    clear hc
    have HF : Aside0 (∀ (w3 : World) (v3 : Value), Below W.heap.size W w3 → Kd.R (Kd.int .i64) 2 w3 W.heap.size (fun _ => True) v3 now → FInv w0 A1 l1.length c1 a0 b (now, (many : Int), true) (((w3.setCell ⟨b, 52, none⟩ v3).setCell ⟨b, 53, none⟩ (.int .i64 (many : Int))).setCell ⟨b, 54, none⟩ (.bool true)) ∧ Only (· = b) W (((w3.setCell ⟨b, 52, none⟩ v3).setCell ⟨b, 53, none⟩ (.int .i64 (many : Int))).setCell ⟨b, 54, none⟩ (.bool true))) := ⟨fun w3 v3 hb hr => by
      have hO : Only (· = b) W (((w3.setCell ⟨b, 52, none⟩ v3).setCell ⟨b, 53, none⟩ (.int .i64 (many : Int))).setCell ⟨b, 54, none⟩ (.bool true)) := Only.set (S := (· = b)) (Only.set (S := (· = b)) (Only.set (S := (· = b)) (Only.of_below hb) rfl 52 _) rfl 53 _) rfl 54 _
      have hO3 : Only (· = b) w3 (((w3.setCell ⟨b, 52, none⟩ v3).setCell ⟨b, 53, none⟩ (.int .i64 (many : Int))).setCell ⟨b, 54, none⟩ (.bool true)) := Only.set (S := (· = b)) (Only.set (S := (· = b)) (Only.set (S := (· = b)) (Only.refl _ _) rfl 52 _) rfl 53 _) rfl 54 _
      have hk := blk_below H2.out hb
      exact ⟨⟨Only.below H1.out hO H1.out.size (fun i hi => by subst hi; exact HBW.out.1), v3, blk_put (blk_put (blk_put hk 52 v3 rfl) 53 (.int .i64 (many : Int)) rfl) 54 (.bool true) rfl, own_only (Kd.R_lower hr HBW.out.2) hO3 (fun i hi => by subst hi; omega)⟩, hO⟩⟩
    have Hf : Aside0 (∀ (w3 : World) (j : Nat) (u : Value), Below W.heap.size W w3 → w3.frozen? ⟨b, j, none⟩ = false ∧ (w3.setCell ⟨b, 52, none⟩ u).frozen? ⟨b, j, none⟩ = false) := ⟨fun w3 j u hb => ⟨blk_frozen (blk_below H2.out hb) j, blk_frozen (blk_set (blk_below H2.out hb) 52 u) j⟩⟩
    rcases hcd with hfd | ⟨hfd, hlt⟩
    · subst hfd
      go_enter Try.func71, Try.ntmps71
      go_wp2_with (first | ((with_reducible refine gate_builtin (b := .append) (xs := #[.tmp 45, .tmp 46]) rfl ?_); at_builtin; refine Kd.R_append_row (Value.int .i64) (0 : Int) (h1 := fun _ => rfl) (w0 := W.alloc (.cells #[] 2)) W.heap.size rfl (.tmp 45) (.tmp 46) 30 2 (.int .i64 0) 8 rfl Try.underlying30 infoI64 rfl (by omega) (.slice (some ⟨W.heap.size, 0, none⟩) 0 0) [] now A2 now.length c2 (fun _ => True) rfl rfl (fun _ _ => trivial) ?aO ?aR (Below.refl _ _) ?aS ?aL ?_; (case aO => exact HLIT.out); (case aR => exact Kd.C_alloc HR2.out.1 _); (case aS => simp); (case aL => have := HN.out; simp only [List.length_nil]; omega); intro v3 w3 ho hb3 hg3 hat3; rw [List.nil_append] at ho; obtain ⟨A3, c3, e3⟩ := Kd.R_slice ho; subst e3; have HR3 := Aside0.mk ho; have HB3 := Aside0.mk ((below_alloc HB.out _).trans hb3); have hf52 := (Hf.out w3 52 (.bool true) HB3.out).1; have hf53 := (Hf.out w3 53 (.bool true) HB3.out).1; have hf54 := (Hf.out w3 54 (.bool true) HB3.out).1; have hc52 : w3.cell? ⟨b, 52, none⟩ = some vb := blk_cell (blk_below H2.out HB3.out) 52; have hc53 : w3.cell? ⟨b, 53, none⟩ = some (.int .i64 least) := blk_cell (blk_below H2.out HB3.out) 53; have hc54 : w3.cell? ⟨b, 54, none⟩ = some (.bool false) := blk_cell (blk_below H2.out HB3.out) 54; clear ho hb3 hg3 hat3))
      exact bodyPost_ret (v := .tuple #[]) (by simp [results, Try.results71, go_sem]) rfl ⟨rfl, by rw [HST.out]; exact (HF.out _ _ HB3.out HR3.out).1, (HF.out _ _ HB3.out HR3.out).2⟩
    · subst hfd
      go_enter Try.func71, Try.ntmps71
      go_wp2_with (first | ((with_reducible refine gate_builtin (b := .append) (xs := #[.tmp 45, .tmp 46]) rfl ?_); at_builtin; refine Kd.R_append_row (Value.int .i64) (0 : Int) (h1 := fun _ => rfl) (w0 := W.alloc (.cells #[] 2)) W.heap.size rfl (.tmp 45) (.tmp 46) 30 2 (.int .i64 0) 8 rfl Try.underlying30 infoI64 rfl (by omega) (.slice (some ⟨W.heap.size, 0, none⟩) 0 0) [] now A2 now.length c2 (fun _ => True) rfl rfl (fun _ _ => trivial) ?aO ?aR (Below.refl _ _) ?aS ?aL ?_; (case aO => exact HLIT.out); (case aR => exact Kd.C_alloc HR2.out.1 _); (case aS => simp); (case aL => have := HN.out; simp only [List.length_nil]; omega); intro v3 w3 ho hb3 hg3 hat3; rw [List.nil_append] at ho; obtain ⟨A3, c3, e3⟩ := Kd.R_slice ho; subst e3; have HR3 := Aside0.mk ho; have HB3 := Aside0.mk ((below_alloc HB.out _).trans hb3); have hf52 := (Hf.out w3 52 (.bool true) HB3.out).1; have hf53 := (Hf.out w3 53 (.bool true) HB3.out).1; have hf54 := (Hf.out w3 54 (.bool true) HB3.out).1; have hc52 : w3.cell? ⟨b, 52, none⟩ = some vb := blk_cell (blk_below H2.out HB3.out) 52; have hc53 : w3.cell? ⟨b, 53, none⟩ = some (.int .i64 least) := blk_cell (blk_below H2.out HB3.out) 53; have hc54 : w3.cell? ⟨b, 54, none⟩ = some (.bool true) := blk_cell (blk_below H2.out HB3.out) 54; clear ho hb3 hg3 hat3))
      exact bodyPost_ret (v := .tuple #[]) (by simp [results, Try.results71, go_sem]) rfl ⟨rfl, by rw [HST.out]; exact (HF.out _ _ HB3.out HR3.out).1, (HF.out _ _ HB3.out HR3.out).2⟩
  · have HST : Aside0 (fromSt (best, least, found) now many = (best, least, found)) := ⟨by unfold fromSt; rw [if_neg hc]⟩
    have hfd : found = true := by cases found <;> simp_all
    subst hfd
    have hlt : decide ((many : Int) < least) = false := decide_eq_false (fun h => hc (.inr h))
    clear hc
    go_enter Try.func71, Try.ntmps71
    go_wp2
    exact bodyPost_ret (v := .tuple #[]) (by simp [results, Try.results71, go_sem]) rfl ⟨rfl, by rw [HST.out]; exact hI0.out, Only.refl _ _⟩
set_option maxHeartbeats 4000000 in
set_option maxRecDepth 100000 in
theorem from_node (w0 : World) (A1 : Option Addr) (c1 : Nat) (l1 : List S90) (a0 : Int) (b : Nat) (hb0 : w0.heap.size ≤ b) (h7 : l1.length ≤ 7) (hr1 : Kd.C k90 w0 A1 l1.length l1) (hc1 : l1.length ≤ c1) (d : Nat)
    (ih : ∀ (now : List Int) (many : Nat) (s : List Int × Int × Bool) (W : World) (v : Value), now.length + d = l1.length → many ≤ now.length → FInv w0 A1 l1.length c1 a0 b s W → Kd.R (Kd.int .i64) 2 W (b + 1) (fun _ => True) v now →
      Calls Try.prog 71 #[.pointer (some ⟨b, 0, none⟩), v, .int .i64 (many : Int)] W fun e W' => e = .returned (.tuple #[]) ∧ FInv w0 A1 l1.length c1 a0 b (runP fromSt s (partsR a0 l1 d now many)) W' ∧ Only (· = b) W W')
    (now : List Int) (many : Nat) (hn : now.length + (d + 1) = l1.length) (hm : many ≤ now.length) (s : List Int × Int × Bool) (W : World) (v : Value) (hI : FInv w0 A1 l1.length c1 a0 b s W) (hR : Kd.R (Kd.int .i64) 2 W (b + 1) (fun _ => True) v now) :
    Calls Try.prog 71 #[.pointer (some ⟨b, 0, none⟩), v, .int .i64 (many : Int)] W fun e W' => e = .returned (.tuple #[]) ∧ FInv w0 A1 l1.length c1 a0 b (runP fromSt s (partsR a0 l1 (d + 1) now many)) W' ∧ Only (· = b) W W' := by
  have hu := Try.underlying85
  obtain ⟨A2, c2, rfl, hc2, _⟩ := Kd.R_reads hR
  have HI0 := Aside0.mk hI
  have hx1 : W.cell? ⟨b, 1, none⟩ = some (.slice A1 l1.length c1) := by
    obtain ⟨_, vb, h2, _⟩ := hI
    exact blk_cell h2 1
  have HN := Aside0.mk (And.intro hn (And.intro hm h7))
  have hlb : ((now.length : Int) == (l1.length : Int)) = false := beq_eq_false_iff_ne.mpr (by omega)
  have HR0 := Aside0.mk hR
  have HIH := Aside0.mk ih
  have HC1 := Aside0.mk (And.intro hr1 hc1)
  have HB0 := Aside0.mk hb0
  clear hI hR ih hr1 hc1 hn hm h7 hc2 hb0
  go_enter Try.func71, Try.ntmps71
  go_wp2
  go_loopg [7] (many + 1) (fun gk v7 w' => ∃ (x : Nat) (s' : List Int × Int × Bool), v7 = .int .i64 x ∧ Aside0 (x + gk = many + 1) ∧ Aside0 (runP fromSt s' (partRR a0 l1 d now many x) = runP fromSt s (partsR a0 l1 (d + 1) now many)) ∧ Aside0 (FInv w0 A1 l1.length c1 a0 b s' w') ∧ Aside0 (Only (· = b) W w'))
  case atStart => exact ⟨0, s, rfl, ⟨by omega⟩, ⟨rfl⟩, HI0, ⟨Only.refl _ _⟩⟩
  case round =>
    clear hx1
    obtain ⟨x, s', rfl, HK, HE, HF, HO⟩ := hrel
    by_cases c3 : (x : Int) ≤ (many : Int)
    · have c3b : decide ((x : Int) ≤ (many : Int)) = true := decide_eq_true c3
      have c3n : decide (x ≤ many) = true := decide_eq_true (by omega)
      have HRW := Aside0.mk (own_only HR0.out HO.out (fun i hi => by omega))
      have HRd : Aside0 (now.length ≤ c2 ∧ Kd.C (Kd.int .i64) wr A2 now.length now) := ⟨(Kd.R_reads' HRW.out).2.1, (Kd.R_reads' HRW.out).2.2⟩
      have HLIT := Aside0.mk (empty_lit (W := wr) (base := wr.heap.size) (e := 2) (Nat.le_refl _))
      have HX : Aside0 (wrap64 ((x : Int) + 1) = ((x + 1 : Nat) : Int)) := ⟨by have := HN.out; unfold wrap64; omega⟩
      obtain ⟨M, hM⟩ : ∃ M, M = now ++ [(x : Int)] := ⟨_, rfl⟩
      have HM := Aside0.mk hM
      have HLM : Aside0 (M.length = now.length + 1 ∧ M.length ≤ l1.length ∧ M.length ≤ c1) := ⟨by have := HN.out; have := HC1.out.2; rw [hM, List.length_append]; simp; omega⟩
      have HFx : Aside0 (∀ w5, Below wr.heap.size wr w5 → w5.cell? ⟨b, 0, none⟩ = some (.int .i64 a0) ∧ w5.cell? ⟨b, 1, none⟩ = some (.slice A1 l1.length c1)) := ⟨fun w5 hb => by
        obtain ⟨_, vb, h2, _⟩ := HF.out
        exact ⟨blk_cell (blk_below h2 hb) 0, blk_cell (blk_below h2 hb) 1⟩⟩
      have HBX : Aside0 (b < wr.heap.size) := ⟨by
        obtain ⟨_, vb, h2, _⟩ := HF.out
        exact blk_lt h2⟩
      have HRT : Aside0 (∀ w5 A4 c4, Below wr.heap.size wr w5 → Kd.R (Kd.int .i64) 2 w5 wr.heap.size (fun _ => True) (.slice A4 M.length c4) M → Calls Try.prog 105 #[.int .i64 a0, .slice A1 M.length c1, .slice A4 M.length c4] w5 fun e w' => e = .returned (.bool (rightP a0 l1 M)) ∧ Below w5.heap.size w5 w') := ⟨fun w5 A4 c4 hb hr => by
        have hl : (l1.take M.length).length = M.length := by rw [List.length_take]; have := HLM.out; omega
        have h1 := Kd.C_take (m := M.length) (Kd.C_below (Kd.C_below HC1.out.1 HF.out.1) hb) HLM.out.2.1
        have h2 := Kd.R_reads' hr
        have := spec_l05Right.calls a0 A1 c1 (l1.take M.length) A4 c4 M (rightP a0 l1 M) w5 h1 (by rw [hl]; exact HLM.out.2.2) h2.2.2 h2.2.1 rfl
        rw [hl] at this
        exact this⟩
      have q1 : M.length ≤ c1 := HLM.out.2.2
      clear c3 hM
      go_wp2_with (first | ((with_reducible refine gate_builtin (b := .append) (xs := #[.tmp 62, .tmp 63]) rfl ?_); at_builtin; refine Kd.R_append_row (Value.int .i64) (0 : Int) (h1 := fun _ => rfl) (w0 := wr.alloc (.cells #[] 2)) wr.heap.size rfl (.tmp 62) (.tmp 63) 30 2 (.int .i64 0) 8 rfl Try.underlying30 infoI64 rfl (by omega) (.slice (some ⟨wr.heap.size, 0, none⟩) 0 0) [] now A2 now.length c2 (fun _ => True) rfl rfl (fun _ _ => trivial) ?aO ?aR (Below.refl _ _) ?aS ?aL ?_; (case aO => exact HLIT.out); (case aR => exact Kd.C_alloc HRd.out.2 _); (case aS => simp); (case aL => have := HN.out; simp only [List.length_nil]; omega); intro v3 w3 ho hb3 hg3 hat3; rw [List.nil_append] at ho; have HR3 := Aside0.mk ho; have HB3 := Aside0.mk ((below_alloc (Below.refl wr.heap.size wr) _).trans hb3); clear ho hb3 hg3 hat3) | ((with_reducible refine gate_builtin (b := .append) (xs := #[.tmp 64, .tmp 66]) rfl ?_); at_builtin; refine Kd.R_append (Kd.int .i64) (w0 := w3) wr.heap.size rfl (.tmp 64) (.tmp 66) 30 2 (.int .i64 0) 8 rfl Try.underlying30 infoI64 rfl (by decide) (by omega) v3 now (x : Int) [.int .i64 (x : Int)] (fun _ => True) (fun _ => False) rfl rfl ?aP (fun _ hk => hk.elim) ?aF ?aO ?aB ?aS ?aL ?_; (case aP => exact rfl); (case aB => exact Below.refl _ _); (case aF => exact (fun _ _ => trivial)); (case aO => exact HR3.out); (case aS => exact HB3.out.size); (case aL => have := HN.out; omega); intro v4 w4 ho hb4 hg4 hat4; rw [← HM.out] at ho; obtain ⟨A4, c4, e4⟩ := Kd.R_slice ho; subst e4; have HR4 := Aside0.mk ho; have HB4 := Aside0.mk (HB3.out.trans hb4); have hx0 := (HFx.out _ HB4.out).1; have hx1 := (HFx.out _ HB4.out).2; clear ho hb4 hg4 hat4))
      go_region_law (first | (go_simp; go_at_call 105; refine (HRT.out w4.drew A4 c4 (below_drew HB4.out) (Kd.R_drew HR4.out)).mono ?_; (rintro e w5 ⟨rfl, hb5⟩; have HB5 := Aside0.mk ((below_drew HB4.out).trans (hb5.mono (below_drew HB4.out).size)); have HR5 := Aside0.mk (Kd.R_below (Kd.R_drew HR4.out) hb5); clear hb5)))
      all_goals
        have HXM : Aside0 (x ≤ many) := ⟨by have := of_decide_eq_true c3n; exact this⟩
        cases hq : rightP a0 l1 M with
        | false =>
          have HE' : Aside0 (runP fromSt s' (partRR a0 l1 d now many (x + 1)) = runP fromSt s (partsR a0 l1 (d + 1) now many)) := ⟨by
            rw [← HE.out, partRR_step HXM.out, ← HM.out, if_neg (by rw [hq]; simp), List.nil_append]⟩
          go_wp2
          go_roundg (gk - 1)
          case measure => have := HK.out; have := HXM.out; omega
          case rel => exact ⟨x + 1, s', by first | rfl | rw [HX.out], ⟨by have := HK.out; have := HXM.out; omega⟩, HE', ⟨HF.out.below HB5.out⟩, ⟨HO.out.trans (Only.of_below HB5.out)⟩⟩
        | true =>
          have HE' : Aside0 (runP fromSt (runP fromSt s' (partsR a0 l1 d M (max many (x + 1)))) (partRR a0 l1 d now many (x + 1)) = runP fromSt s (partsR a0 l1 (d + 1) now many)) := ⟨by
            rw [← HE.out, partRR_step HXM.out, ← HM.out, if_pos hq, runP_append]⟩
          have HMX : Aside0 (∀ W1, Calls Try.prog 94 #[.int .i64 (many : Int), .int .i64 (wrap64 ((x : Int) + 1))] W1 fun e w' => e = .returned (.int .i64 ((max many (x + 1) : Nat) : Int)) ∧ Drawn0 W1 w') := ⟨fun W1 => by
            rw [HX.out]
            exact spec_l00Max.calls _ _ _ W1 (by unfold spec_l00Max.f; by_cases h : (many : Int) > ((x + 1 : Nat) : Int); rw [if_pos h]; congr 1; omega; rw [if_neg h]; congr 1; omega)⟩
          have HRC : Aside0 (∀ W1, Below w5.heap.size w5 W1 → Calls Try.prog 71 #[.pointer (some ⟨b, 0, none⟩), .slice A4 M.length c4, .int .i64 ((max many (x + 1) : Nat) : Int)] W1 fun e W' => e = .returned (.tuple #[]) ∧ FInv w0 A1 l1.length c1 a0 b (runP fromSt s' (partsR a0 l1 d M (max many (x + 1)))) W' ∧ Only (· = b) W1 W') := ⟨fun W1 hb =>
            HIH.out M (max many (x + 1)) s' W1 _ (by have := HLM.out; have := HN.out; omega) (by have := HLM.out; have := HN.out; have := HXM.out; omega) ((HF.out.below HB5.out).below hb) (Kd.R_lower (Kd.R_below HR5.out hb) HBX.out)⟩
          clear hq
          go_wp2_with (first | (go_at_call 94; refine (HMX.out _).mono ?_; rintro e w6 ⟨rfl, nd, rfl⟩) | (go_at_call 71; refine (HRC.out _ (pw_below_drewN (Below.refl _ _) nd)).mono ?_; rintro e w7 ⟨rfl, hf7, ho7⟩; have HF7 := Aside0.mk hf7; have HO7 := Aside0.mk ((Only.of_below (pw_below_drewN (Below.refl _ _) nd)).trans ho7); clear hf7 ho7))
          go_roundg (gk - 1)
          case measure => have := HK.out; have := HXM.out; omega
          case rel => exact ⟨x + 1, _, by first | rfl | rw [HX.out], ⟨by have := HK.out; have := HXM.out; omega⟩, HE', HF7, ⟨(HO.out.trans (Only.of_below HB5.out)).trans HO7.out⟩⟩
    · have c3b : decide ((x : Int) ≤ (many : Int)) = false := decide_eq_false c3
      have c3n : decide (x ≤ many) = false := decide_eq_false (by omega)
      have HE' : Aside0 (s' = runP fromSt s (partsR a0 l1 (d + 1) now many)) := ⟨by
        rw [← HE.out, partRR_end (by omega)]
        rfl⟩
      clear c3
      go_wp2
      go_end0
      exact ⟨rfl, by rw [← HE'.out]; exact HF.out, HO.out⟩
theorem from_all (w0 : World) (A1 : Option Addr) (c1 : Nat) (l1 : List S90) (a0 : Int) (b : Nat) (hb0 : w0.heap.size ≤ b) (h7 : l1.length ≤ 7) (hr1 : Kd.C k90 w0 A1 l1.length l1) (hc1 : l1.length ≤ c1) : ∀ (d : Nat) (now : List Int) (many : Nat) (s : List Int × Int × Bool) (W : World) (v : Value), now.length + d = l1.length → many ≤ now.length → FInv w0 A1 l1.length c1 a0 b s W → Kd.R (Kd.int .i64) 2 W (b + 1) (fun _ => True) v now →
      Calls Try.prog 71 #[.pointer (some ⟨b, 0, none⟩), v, .int .i64 (many : Int)] W fun e W' => e = .returned (.tuple #[]) ∧ FInv w0 A1 l1.length c1 a0 b (runP fromSt s (partsR a0 l1 d now many)) W' ∧ Only (· = b) W W'
  | 0, now, many, s, W, v, hn, _, hI, hR => from_leaf w0 A1 c1 l1 a0 b hb0 h7 now many (by omega) s W v hI hR
  | d + 1, now, many, s, W, v, hn, hm, hI, hR => from_node w0 A1 c1 l1 a0 b hb0 h7 hr1 hc1 d (from_all w0 A1 c1 l1 a0 b hb0 h7 hr1 hc1 d) now many hn hm s W v hI hR

/-! ### spec_FewestTrips: function 33: this session's own text -/
def spec_FewestTrips.f (a0 : Int) (l1 : List S90) : Option (List Int × Int × Int) := (spec_l05Seated.f (l1.length + 2) a0 l1).bind fun t => if t = 0 then (spec_l05Most.f (l1.length + 2) a0 l1).bind fun m => if m = true then (if l1.length ≤ 7 then some ((runP fromSt ([], 0, false) (partsR a0 l1 l1.length [] 0)).1, (runP fromSt ([], 0, false) (partsR a0 l1 l1.length [] 0)).2.1, 0) else none) else some ([], 0, 6) else some ([], 0, t)
theorem from_init {w w1 : World} {nd : Nat} {A1 : Option Addr} {n c1 : Nat} {a0 : Int} (hb : Below w.heap.size w w1) : FInv w A1 n c1 a0 w1.heap.size ([], 0, false) (((w1.drewN nd).alloc (.cells (boxP A1 n c1 a0 (.slice none 0 0) 0 false).toArray 85)).alloc (.cells #[] 2)) ∧
    Kd.R (Kd.int .i64) 2 (((w1.drewN nd).alloc (.cells (boxP A1 n c1 a0 (.slice none 0 0) 0 false).toArray 85)).alloc (.cells #[] 2)) (w1.heap.size + 1) (fun _ => True) (.slice (some ⟨w1.heap.size + 1, 0, none⟩) 0 0) [] := by
  have hs : (w1.drewN nd).heap.size = w1.heap.size := rfl
  have s1 : ((w1.drewN nd).alloc (.cells (boxP A1 n c1 a0 (.slice none 0 0) 0 false).toArray 85)).heap.size = w1.heap.size + 1 := by simp [hs]
  have b1 := empty_lit (W := (w1.drewN nd).alloc (.cells (boxP A1 n c1 a0 (.slice none 0 0) 0 false).toArray 85)) (base := w1.heap.size + 1) (e := 2) (by rw [s1]; exact Nat.le_refl _)
  rw [s1] at b1
  exact ⟨⟨below_alloc (below_alloc (pw_below_drewN hb nd) _) _, .slice none 0 0, blk_alloc (blk_new (w1.drewN nd) _) _, Kd.R_nil _ _ _ _ _⟩, b1⟩
set_option maxHeartbeats 4000000 in
set_option maxRecDepth 100000 in
theorem spec_FewestTrips.calls (a0 : Int) (A1 : Option Addr) (c1 : Nat) (l1 : List (S90)) (r1 : List Int) (r2 r3 : Int) (w : World) (hr1 : Kd.C k90 w A1 l1.length l1) (hc1 : l1.length ≤ c1) (h : spec_FewestTrips.f a0 l1 = some (r1, r2, r3)) :
    Calls Try.prog 33 #[.int .i64 a0, .slice A1 l1.length c1] w fun e w' => ∃ v0_ : Value, e = .returned (.tuple #[v0_, .int .i64 r2, .int .i64 r3]) ∧ Kd.R (Kd.int .i64) 2 w' w.heap.size (fun _ => True) v0_ r1 ∧ Below w.heap.size w w' := by
  have hu := Try.underlying85
  unfold spec_FewestTrips.f at h
  obtain ⟨t, A3, h⟩ := Option.bind_eq_some_iff.mp h
  have hcs : Aside0 (Calls Try.prog 69 #[.int .i64 a0, .slice A1 l1.length c1] w fun e w' => e = .returned (.int .i64 t) ∧ Below w.heap.size w w') := ⟨spec_l05Seated.calls _ a0 A1 c1 l1 t w hr1 hc1 A3⟩
  clear A3
  by_cases ht : t = 0
  · rw [if_pos ht] at h
    subst ht
    obtain ⟨m, A4, h⟩ := Option.bind_eq_some_iff.mp h
    have hcm : Aside0 (∀ W, Below w.heap.size w W → Calls Try.prog 70 #[.int .i64 a0, .slice A1 l1.length c1] W fun e w' => e = .returned (.bool m) ∧ Drawn0 W w') := ⟨fun W hW => spec_l05Most.calls _ a0 A1 c1 l1 m W (Kd.C_below hr1 hW) hc1 A4⟩
    clear A4
    cases m with
    | false =>
      rw [if_neg (by simp)] at h
      obtain ⟨rfl, e2⟩ := Prod.mk.inj (Option.some.inj h)
      obtain ⟨rfl, rfl⟩ := Prod.mk.inj e2
      clear h e2 hr1 hc1
      go_enter Try.func33, Try.ntmps33
      go_wp2_with (first | (go_at_call 69; refine hcs.out.mono ?_; rintro e w1 ⟨rfl, hb1⟩; have HB1 := Aside0.mk hb1; clear hb1) | (go_at_call 70; refine (hcm.out _ HB1.out).mono ?_; rintro e w2 ⟨rfl, nd, rfl⟩))
      have b1 := empty_lit (W := w1.drewN nd) (base := w.heap.size) (e := 2) HB1.out.size
      exact bodyPost_ret (v := .tuple #[.slice (some ⟨w1.heap.size, 0, none⟩) 0 0, .int .i64 0, .int .i64 6]) (by simp [results, Try.results33, go_sem]) rfl ⟨_, rfl, b1, below_alloc (pw_below_drewN HB1.out nd) _⟩
    | true =>
      rw [if_pos rfl] at h
      by_cases h7 : l1.length ≤ 7
      · rw [if_pos h7] at h
        have hfr : Aside0 (∀ b W v, w.heap.size ≤ b → FInv w A1 l1.length c1 a0 b ([], 0, false) W → Kd.R (Kd.int .i64) 2 W (b + 1) (fun _ => True) v [] → Calls Try.prog 71 #[.pointer (some ⟨b, 0, none⟩), v, .int .i64 0] W fun e W' => e = .returned (.tuple #[]) ∧ FInv w A1 l1.length c1 a0 b (runP fromSt ([], 0, false) (partsR a0 l1 l1.length [] 0)) W' ∧ Only (· = b) W W') := ⟨fun b W v hb hI hR => from_all w A1 c1 l1 a0 b hb h7 hr1 hc1 l1.length [] 0 _ W v (by simp) (Nat.zero_le _) hI hR⟩
        generalize runP fromSt ([], 0, false) (partsR a0 l1 l1.length [] 0) = B at h hfr
        obtain ⟨best, least, found⟩ := B
        obtain ⟨rfl, e2⟩ := Prod.mk.inj (Option.some.inj h)
        obtain ⟨rfl, rfl⟩ := Prod.mk.inj e2
        clear h e2 hr1 hc1 h7
        go_enter Try.func33, Try.ntmps33
        go_wp2_with (first | (go_at_call 69; refine hcs.out.mono ?_; rintro e w1 ⟨rfl, hb1⟩; have HB1 := Aside0.mk hb1; clear hb1) | (go_at_call 70; refine (hcm.out _ HB1.out).mono ?_; rintro e w2 ⟨rfl, nd, rfl⟩) | (go_at_call 71; refine (hfr.out _ _ _ HB1.out.size (from_init HB1.out).1 (from_init HB1.out).2).mono ?_; rintro e w7 ⟨rfl, ⟨hb7, vb, h2, h3⟩, _⟩; have hx52 : w7.cell? ⟨w1.heap.size, 52, none⟩ = some vb := blk_cell h2 52; have hx53 : w7.cell? ⟨w1.heap.size, 53, none⟩ = some (.int .i64 least) := blk_cell h2 53; have HR7 := Aside0.mk (Kd.R_lower h3 (Nat.le_succ_of_le HB1.out.size)); have HB7 := Aside0.mk hb7; clear h2 h3 hb7))
        go_region
        all_goals go_wp2
        all_goals exact bodyPost_ret (v := .tuple #[vb, .int .i64 least, .int .i64 0]) (by simp [results, Try.results33, go_sem]) rfl ⟨_, rfl, Kd.R_drew HR7.out, below_drew HB7.out⟩
      · rw [if_neg h7] at h; cases h
  · rw [if_neg ht] at h
    clear hr1 hc1
    obtain ⟨rfl, e2⟩ := Prod.mk.inj (Option.some.inj h)
    obtain ⟨rfl, rfl⟩ := Prod.mk.inj e2
    clear h e2
    have htb : (t != 0) = true := bne_iff_ne.mpr ht
    have htb' : (t == 0) = false := beq_eq_false_iff_ne.mpr ht
    go_enter Try.func33, Try.ntmps33
    go_wp2_with (first | (go_at_call 69; refine hcs.out.mono ?_; rintro e w1 ⟨rfl, hb1⟩; have HB1 := Aside0.mk hb1; clear hb1))
    have b1 := empty_lit (W := w1) (base := w.heap.size) (e := 2) HB1.out.size
    exact bodyPost_ret (v := .tuple #[.slice (some ⟨w1.heap.size, 0, none⟩) 0 0, .int .i64 0, .int .i64 t]) (by simp [results, Try.results33, go_sem]) rfl ⟨_, rfl, b1, below_alloc HB1.out _⟩

/-! ### laws_toPlace: function 106 -/
def laws_toPlace.f (a0_0 : Int) (a0_1 : Int) : Option (Int × Int) := some (a0_0, a0_1)
set_option maxHeartbeats 8000000 in
set_option maxRecDepth 100000 in
theorem laws_toPlace.calls (a0_0 : Int) (a0_1 : Int) (r1 : Int) (r2 : Int) (w : World) (h : laws_toPlace.f a0_0 a0_1 = some (r1, r2)) :
    Calls Try.prog 106 #[.agg #[.int .i8 a0_0, .int .i8 a0_1]] w fun e w' => e = .returned (.agg #[.int .i8 r1, .int .i8 r2]) ∧ Below w.heap.size w w' := by
  have hu92 := Try.underlying92
  have hu88 := Try.underlying88
  have HB := Aside0.mk (Below.refl w.heap.size w)
  have H : (some (a0_0, a0_1)) = some (r1, r2) := h
  clear h
  simp only [Option.some.injEq, Prod.mk.injEq] at H
  obtain ⟨rfl, rfl⟩ := H
  go_enter Try.func106, Try.ntmps106
  go_wp2_with (first | ((with_reducible refine gate_dst (N := 1) rfl ?_); refine box_event ?hg (N := 1) ?hd (cs := #[.int .i8 a0_0, .int .i8 a0_1]) (t := 92) ?hr ?_; (case hd => rfl); (case hg => rfl); (case hr => first | (go_simp; done) | (go_simp; rfl)); intro gb111 hg w2 hbox hb; have n0_ := Aside0.mk (below_step (by repeat (first | (with_reducible first | exact HB.out | apply below_alloc | apply pw_below_drewN | apply below_drew1) | exact HB.out)) hb); have n1_ := Aside0.mk (hbox); have n2_ := Aside0.mk ((by rw [hg]; exact (below_size (by repeat (first | (with_reducible first | exact HB.out | apply below_alloc | apply pw_below_drewN | apply below_drew1) | exact HB.out))) : w.heap.size ≤ gb111)); have n3_ := Aside0.mk ((by rw [hg]; exact (below_size (by repeat (first | (with_reducible first | exact HB.out | apply below_alloc | apply pw_below_drewN | apply below_drew1) | exact HB.out))) : w.heap.size ≤ gb111)); clear HB; have HB := n0_; have BK111 := n1_; have GW111 := n2_; have GE111 := n3_; clear n0_ n1_ n2_ n3_; clear hb hbox hg) | ((with_reducible refine gate_dst (N := 2) rfl ?_); refine box_event ?hg (N := 2) ?hd (cs := #[.int .i8 0, .int .i8 0]) (t := 88) ?hr ?_; (case hd => rfl); (case hg => rfl); (case hr => first | (go_simp; done) | (go_simp; rfl)); intro gb112 hg w3 hbox hb; have n0_ := Aside0.mk (blk_below (g := gb111) (o := .cells #[.int .i8 a0_0, .int .i8 a0_1] 92 (0, 0)) (by (with_reducible repeat (first | refine blk_drewN ?_ _ | refine blk_drew ?_ | refine blk_alloc ?_ _)); exact BK111.out) hb); have n1_ := Aside0.mk (below_step (by repeat (first | (with_reducible first | exact HB.out | apply below_alloc | apply pw_below_drewN | apply below_drew1 | refine below_set ?_ GE111.out) | exact HB.out)) hb); have n2_ := Aside0.mk (hbox); have n3_ := Aside0.mk ((by rw [hg]; exact (below_size (by repeat (first | (with_reducible first | exact HB.out | apply below_alloc | apply pw_below_drewN | apply below_drew1 | refine below_set ?_ GE111.out) | exact HB.out))) : w.heap.size ≤ gb112)); have n4_ := Aside0.mk ((by rw [hg]; exact (below_size (by repeat (first | (with_reducible first | exact HB.out | apply below_alloc | apply pw_below_drewN | apply below_drew1 | refine below_set ?_ GE111.out) | exact HB.out))) : w.heap.size ≤ gb112)); have n5_ := Aside0.mk ((by rw [hg]; exact Nat.ne_of_lt (blk_lt (g := gb111) (o := .cells #[.int .i8 a0_0, .int .i8 a0_1] 92 (0, 0)) (by (with_reducible repeat (first | refine blk_drewN ?_ _ | refine blk_drew ?_ | refine blk_alloc ?_ _)); exact BK111.out)) : gb111 ≠ gb112)); have n6_ := Aside0.mk ((by rw [hg]; exact Nat.ne_of_gt (blk_lt (g := gb111) (o := .cells #[.int .i8 a0_0, .int .i8 a0_1] 92 (0, 0)) (by (with_reducible repeat (first | refine blk_drewN ?_ _ | refine blk_drew ?_ | refine blk_alloc ?_ _)); exact BK111.out)) : gb112 ≠ gb111)); clear BK111; clear HB; have BK111 := n0_; have HB := n1_; have BK112 := n2_; have GW112 := n3_; have GE112 := n4_; have NB111_112 := n5_; have NB112_111 := n6_; clear n0_ n1_ n2_ n3_ n4_ n5_ n6_; clear hb hbox hg) | ((with_reducible refine gate_dst (N := 3) rfl ?_); refine box_event ?hg (N := 3) ?hd (cs := #[.int .i8 0, .int .i8 0]) (t := 88) ?hr ?_; (case hd => rfl); (case hg => rfl); (case hr => first | (go_simp; done) | (go_simp; rfl)); intro gb113 hg w4 hbox hb; have n0_ := Aside0.mk (blk_below (g := gb111) (o := .cells #[.int .i8 a0_0, .int .i8 a0_1] 92 (0, 0)) (by (with_reducible repeat (first | refine blk_drewN ?_ _ | refine blk_drew ?_ | refine blk_alloc ?_ _)); exact BK111.out) hb); have n1_ := Aside0.mk (blk_below (g := gb112) (o := .cells #[.int .i8 0, .int .i8 0] 88 (0, 0)) (by (with_reducible repeat (first | refine blk_drewN ?_ _ | refine blk_drew ?_ | refine blk_alloc ?_ _)); exact BK112.out) hb); have n2_ := Aside0.mk (below_step (by repeat (first | (with_reducible first | exact HB.out | apply below_alloc | apply pw_below_drewN | apply below_drew1 | refine below_set ?_ GE111.out | refine below_set ?_ GE112.out) | exact HB.out)) hb); have n3_ := Aside0.mk (hbox); have n4_ := Aside0.mk ((by rw [hg]; exact (below_size (by repeat (first | (with_reducible first | exact HB.out | apply below_alloc | apply pw_below_drewN | apply below_drew1 | refine below_set ?_ GE111.out | refine below_set ?_ GE112.out) | exact HB.out))) : w.heap.size ≤ gb113)); have n5_ := Aside0.mk ((by rw [hg]; exact (below_size (by repeat (first | (with_reducible first | exact HB.out | apply below_alloc | apply pw_below_drewN | apply below_drew1 | refine below_set ?_ GE111.out | refine below_set ?_ GE112.out) | exact HB.out))) : w.heap.size ≤ gb113)); have n6_ := Aside0.mk ((by rw [hg]; exact Nat.ne_of_lt (blk_lt (g := gb111) (o := .cells #[.int .i8 a0_0, .int .i8 a0_1] 92 (0, 0)) (by (with_reducible repeat (first | refine blk_drewN ?_ _ | refine blk_drew ?_ | refine blk_alloc ?_ _)); exact BK111.out)) : gb111 ≠ gb113)); have n7_ := Aside0.mk ((by rw [hg]; exact Nat.ne_of_gt (blk_lt (g := gb111) (o := .cells #[.int .i8 a0_0, .int .i8 a0_1] 92 (0, 0)) (by (with_reducible repeat (first | refine blk_drewN ?_ _ | refine blk_drew ?_ | refine blk_alloc ?_ _)); exact BK111.out)) : gb113 ≠ gb111)); have n8_ := Aside0.mk ((by rw [hg]; exact Nat.ne_of_lt (blk_lt (g := gb112) (o := .cells #[.int .i8 0, .int .i8 0] 88 (0, 0)) (by (with_reducible repeat (first | refine blk_drewN ?_ _ | refine blk_drew ?_ | refine blk_alloc ?_ _)); exact BK112.out)) : gb112 ≠ gb113)); have n9_ := Aside0.mk ((by rw [hg]; exact Nat.ne_of_gt (blk_lt (g := gb112) (o := .cells #[.int .i8 0, .int .i8 0] 88 (0, 0)) (by (with_reducible repeat (first | refine blk_drewN ?_ _ | refine blk_drew ?_ | refine blk_alloc ?_ _)); exact BK112.out)) : gb113 ≠ gb112)); clear BK111; clear BK112; clear HB; have BK111 := n0_; have BK112 := n1_; have HB := n2_; have BK113 := n3_; have GW113 := n4_; have GE113 := n5_; have NB111_113 := n6_; have NB113_111 := n7_; have NB112_113 := n8_; have NB113_112 := n9_; clear n0_ n1_ n2_ n3_ n4_ n5_ n6_ n7_ n8_ n9_; clear hb hbox hg; have hnb5 := NB111_112.out; have hnc5 := NB112_111.out; have hnb6 := NB111_113.out; have hnc6 := NB113_111.out; have hcz7_0 : w4.cell? ⟨gb111, 0, none⟩ = some (.int .i8 a0_0) := (blk_cell BK111.out 0).trans rfl; have hcz7_1 : w4.cell? ⟨gb111, 1, none⟩ = some (.int .i8 a0_1) := (blk_cell BK111.out 1).trans rfl; have hfz7_0 := blk_frozen BK111.out 0; have hfz7_1 := blk_frozen BK111.out 1; have hnb8 := NB113_112.out; have hnc8 := NB112_113.out; have hcz9_0 : w4.cell? ⟨gb113, 0, none⟩ = some (.int .i8 0) := (blk_cell BK113.out 0).trans rfl; have hcz9_1 : w4.cell? ⟨gb113, 1, none⟩ = some (.int .i8 0) := (blk_cell BK113.out 1).trans rfl; have hfz9_0 := blk_frozen BK113.out 0; have hfz9_1 := blk_frozen BK113.out 1; have hcz10_0 : w4.cell? ⟨gb112, 0, none⟩ = some (.int .i8 0) := (blk_cell BK112.out 0).trans rfl; have hcz10_1 : w4.cell? ⟨gb112, 1, none⟩ = some (.int .i8 0) := (blk_cell BK112.out 1).trans rfl; have hfz10_0 := blk_frozen BK112.out 0; have hfz10_1 := blk_frozen BK112.out 1))
  refine bodyPost_ret (results_cell_row rfl _ _ gb112 88 #[.int .i8 a0_0, .int .i8 a0_1] (0, 0) _ rfl (by (with_reducible repeat (first | refine blk_drewN ?_ _ | refine blk_drew ?_ | refine blk_alloc ?_ _)); refine blk_put (cs := #[.int .i8 a0_0, .int .i8 0]) ?_ 1 _ rfl; (with_reducible repeat (first | refine blk_drewN ?_ _ | refine blk_drew ?_ | refine blk_alloc ?_ _)); refine blk_put (cs := #[.int .i8 0, .int .i8 0]) ?_ 0 _ rfl; (with_reducible repeat (first | refine blk_drewN ?_ _ | refine blk_drew ?_ | refine blk_alloc ?_ _)); refine blk_far ?_ NB112_113.out _; (with_reducible repeat (first | refine blk_drewN ?_ _ | refine blk_drew ?_ | refine blk_alloc ?_ _)); refine blk_far ?_ NB112_113.out _; (with_reducible repeat (first | refine blk_drewN ?_ _ | refine blk_drew ?_ | refine blk_alloc ?_ _)); exact BK112.out) Try.underlying88 rfl (by kernel_rfl)) rfl ?_
  exact ⟨by first | rfl | (simp [errW_none, errW_some] <;> rfl) | (simp [*, errW_none, errW_some] <;> rfl), by repeat (first | (with_reducible first | exact HB.out | apply below_alloc | apply pw_below_drewN | apply below_drew1 | refine below_set ?_ GE111.out | refine below_set ?_ GE112.out | refine below_set ?_ GE113.out) | exact HB.out)⟩

/-! ### laws_toCrew: function 72 -/
def laws_toCrew.f (a0_0 : Int) (a0_1 : Int) (a0_2 : Int) : Option (Int × Int × Int) := (laws_toPlace.f a0_0 a0_1).bind fun bt117 => (some (bt117.1, bt117.2, a0_2))
set_option maxHeartbeats 8000000 in
set_option maxRecDepth 100000 in
theorem laws_toCrew.calls (a0_0 : Int) (a0_1 : Int) (a0_2 : Int) (r1 : Int) (r2 : Int) (r3 : Int) (w : World) (h : laws_toCrew.f a0_0 a0_1 a0_2 = some (r1, r2, r3)) :
    Calls Try.prog 72 #[.agg #[.int .i8 a0_0, .int .i8 a0_1, .int .i8 a0_2]] w fun e w' => e = .returned (.agg #[.int .i8 r1, .int .i8 r2, .int .i8 r3]) ∧ Below w.heap.size w w' := by
  have hu94 := Try.underlying94
  have hu90 := Try.underlying90
  have hu92 := Try.underlying92
  have hu88 := Try.underlying88
  have HB := Aside0.mk (Below.refl w.heap.size w)
  have H : ((laws_toPlace.f a0_0 a0_1).bind fun bt117 => (some (bt117.1, bt117.2, a0_2))) = some (r1, r2, r3) := h
  clear h
  replace H := Option.bind_eq_some_iff.mp H
  obtain ⟨⟨t117, t118⟩, A20, H⟩ := H
  replace H : (some (t117, t118, a0_2)) = some (r1, r2, r3) := H
  have A2 := Aside0.mk A20
  clear A20
  simp only [Option.some.injEq, Prod.mk.injEq] at H
  obtain ⟨rfl, rfl, rfl⟩ := H
  go_enter Try.func72, Try.ntmps72
  go_wp2_with (first | ((with_reducible refine gate_dst (N := 1) rfl ?_); refine box_event ?hg (N := 1) ?hd (cs := #[.int .i8 a0_0, .int .i8 a0_1, .int .i8 a0_2]) (t := 94) ?hr ?_; (case hd => rfl); (case hg => rfl); (case hr => first | (go_simp; done) | (go_simp; rfl)); intro gb114 hg w3 hbox hb; have n0_ := Aside0.mk (below_step (by repeat (first | (with_reducible first | exact HB.out | apply below_alloc | apply pw_below_drewN | apply below_drew1) | exact HB.out)) hb); have n1_ := Aside0.mk (hbox); have n2_ := Aside0.mk ((by rw [hg]; exact (below_size (by repeat (first | (with_reducible first | exact HB.out | apply below_alloc | apply pw_below_drewN | apply below_drew1) | exact HB.out))) : w.heap.size ≤ gb114)); have n3_ := Aside0.mk ((by rw [hg]; exact (below_size (by repeat (first | (with_reducible first | exact HB.out | apply below_alloc | apply pw_below_drewN | apply below_drew1) | exact HB.out))) : w.heap.size ≤ gb114)); clear HB; have HB := n0_; have BK114 := n1_; have GW114 := n2_; have GE114 := n3_; clear n0_ n1_ n2_ n3_; clear hb hbox hg) | ((with_reducible refine gate_dst (N := 2) rfl ?_); refine box_event ?hg (N := 2) ?hd (cs := #[.int .i8 0, .int .i8 0, .int .i8 0]) (t := 90) ?hr ?_; (case hd => rfl); (case hg => rfl); (case hr => first | (go_simp; done) | (go_simp; rfl)); intro gb115 hg w4 hbox hb; have n0_ := Aside0.mk (blk_below (g := gb114) (o := .cells #[.int .i8 a0_0, .int .i8 a0_1, .int .i8 a0_2] 94 (0, 0)) (by (with_reducible repeat (first | refine blk_drewN ?_ _ | refine blk_drew ?_ | refine blk_alloc ?_ _)); exact BK114.out) hb); have n1_ := Aside0.mk (below_step (by repeat (first | (with_reducible first | exact HB.out | apply below_alloc | apply pw_below_drewN | apply below_drew1 | refine below_set ?_ GE114.out) | exact HB.out)) hb); have n2_ := Aside0.mk (hbox); have n3_ := Aside0.mk ((by rw [hg]; exact (below_size (by repeat (first | (with_reducible first | exact HB.out | apply below_alloc | apply pw_below_drewN | apply below_drew1 | refine below_set ?_ GE114.out) | exact HB.out))) : w.heap.size ≤ gb115)); have n4_ := Aside0.mk ((by rw [hg]; exact (below_size (by repeat (first | (with_reducible first | exact HB.out | apply below_alloc | apply pw_below_drewN | apply below_drew1 | refine below_set ?_ GE114.out) | exact HB.out))) : w.heap.size ≤ gb115)); have n5_ := Aside0.mk ((by rw [hg]; exact Nat.ne_of_lt (blk_lt (g := gb114) (o := .cells #[.int .i8 a0_0, .int .i8 a0_1, .int .i8 a0_2] 94 (0, 0)) (by (with_reducible repeat (first | refine blk_drewN ?_ _ | refine blk_drew ?_ | refine blk_alloc ?_ _)); exact BK114.out)) : gb114 ≠ gb115)); have n6_ := Aside0.mk ((by rw [hg]; exact Nat.ne_of_gt (blk_lt (g := gb114) (o := .cells #[.int .i8 a0_0, .int .i8 a0_1, .int .i8 a0_2] 94 (0, 0)) (by (with_reducible repeat (first | refine blk_drewN ?_ _ | refine blk_drew ?_ | refine blk_alloc ?_ _)); exact BK114.out)) : gb115 ≠ gb114)); clear BK114; clear HB; have BK114 := n0_; have HB := n1_; have BK115 := n2_; have GW115 := n3_; have GE115 := n4_; have NB114_115 := n5_; have NB115_114 := n6_; clear n0_ n1_ n2_ n3_ n4_ n5_ n6_; clear hb hbox hg) | ((with_reducible refine gate_dst (N := 3) rfl ?_); refine box_event ?hg (N := 3) ?hd (cs := #[.int .i8 0, .int .i8 0, .int .i8 0]) (t := 90) ?hr ?_; (case hd => rfl); (case hg => rfl); (case hr => first | (go_simp; done) | (go_simp; rfl)); intro gb116 hg w5 hbox hb; have n0_ := Aside0.mk (blk_below (g := gb114) (o := .cells #[.int .i8 a0_0, .int .i8 a0_1, .int .i8 a0_2] 94 (0, 0)) (by (with_reducible repeat (first | refine blk_drewN ?_ _ | refine blk_drew ?_ | refine blk_alloc ?_ _)); exact BK114.out) hb); have n1_ := Aside0.mk (blk_below (g := gb115) (o := .cells #[.int .i8 0, .int .i8 0, .int .i8 0] 90 (0, 0)) (by (with_reducible repeat (first | refine blk_drewN ?_ _ | refine blk_drew ?_ | refine blk_alloc ?_ _)); exact BK115.out) hb); have n2_ := Aside0.mk (below_step (by repeat (first | (with_reducible first | exact HB.out | apply below_alloc | apply pw_below_drewN | apply below_drew1 | refine below_set ?_ GE114.out | refine below_set ?_ GE115.out) | exact HB.out)) hb); have n3_ := Aside0.mk (hbox); have n4_ := Aside0.mk ((by rw [hg]; exact (below_size (by repeat (first | (with_reducible first | exact HB.out | apply below_alloc | apply pw_below_drewN | apply below_drew1 | refine below_set ?_ GE114.out | refine below_set ?_ GE115.out) | exact HB.out))) : w.heap.size ≤ gb116)); have n5_ := Aside0.mk ((by rw [hg]; exact (below_size (by repeat (first | (with_reducible first | exact HB.out | apply below_alloc | apply pw_below_drewN | apply below_drew1 | refine below_set ?_ GE114.out | refine below_set ?_ GE115.out) | exact HB.out))) : w.heap.size ≤ gb116)); have n6_ := Aside0.mk ((by rw [hg]; exact Nat.ne_of_lt (blk_lt (g := gb114) (o := .cells #[.int .i8 a0_0, .int .i8 a0_1, .int .i8 a0_2] 94 (0, 0)) (by (with_reducible repeat (first | refine blk_drewN ?_ _ | refine blk_drew ?_ | refine blk_alloc ?_ _)); exact BK114.out)) : gb114 ≠ gb116)); have n7_ := Aside0.mk ((by rw [hg]; exact Nat.ne_of_gt (blk_lt (g := gb114) (o := .cells #[.int .i8 a0_0, .int .i8 a0_1, .int .i8 a0_2] 94 (0, 0)) (by (with_reducible repeat (first | refine blk_drewN ?_ _ | refine blk_drew ?_ | refine blk_alloc ?_ _)); exact BK114.out)) : gb116 ≠ gb114)); have n8_ := Aside0.mk ((by rw [hg]; exact Nat.ne_of_lt (blk_lt (g := gb115) (o := .cells #[.int .i8 0, .int .i8 0, .int .i8 0] 90 (0, 0)) (by (with_reducible repeat (first | refine blk_drewN ?_ _ | refine blk_drew ?_ | refine blk_alloc ?_ _)); exact BK115.out)) : gb115 ≠ gb116)); have n9_ := Aside0.mk ((by rw [hg]; exact Nat.ne_of_gt (blk_lt (g := gb115) (o := .cells #[.int .i8 0, .int .i8 0, .int .i8 0] 90 (0, 0)) (by (with_reducible repeat (first | refine blk_drewN ?_ _ | refine blk_drew ?_ | refine blk_alloc ?_ _)); exact BK115.out)) : gb116 ≠ gb115)); clear BK114; clear BK115; clear HB; have BK114 := n0_; have BK115 := n1_; have HB := n2_; have BK116 := n3_; have GW116 := n4_; have GE116 := n5_; have NB114_116 := n6_; have NB116_114 := n7_; have NB115_116 := n8_; have NB116_115 := n9_; clear n0_ n1_ n2_ n3_ n4_ n5_ n6_ n7_ n8_ n9_; clear hb hbox hg; have hnb6 := NB114_115.out; have hnc6 := NB115_114.out; have hnb7 := NB114_116.out; have hnc7 := NB116_114.out; have hcz8_0 : w5.cell? ⟨gb114, 0, none⟩ = some (.int .i8 a0_0) := (blk_cell BK114.out 0).trans rfl; have hcz8_1 : w5.cell? ⟨gb114, 1, none⟩ = some (.int .i8 a0_1) := (blk_cell BK114.out 1).trans rfl; have hcz8_2 : w5.cell? ⟨gb114, 2, none⟩ = some (.int .i8 a0_2) := (blk_cell BK114.out 2).trans rfl; have hfz8_0 := blk_frozen BK114.out 0; have hfz8_1 := blk_frozen BK114.out 1; have hfz8_2 := blk_frozen BK114.out 2) | ((with_reducible refine gate_callee (f := 106) rfl ?_); refine goesL_ (some 6) rfl rfl Try.func106 (by kernel_rfl) rfl #[.agg #[.int .i8 a0_0, .int .i8 a0_1]] rfl (by (try simp only [List.map_toArray, List.map_cons, List.map_nil]); first | done | rfl | (simp only [List.length_drop, List.length_take]; rfl)) ?_; (with_reducible refine (laws_toPlace.calls a0_0 a0_1 t117 t118 _ A2.out).mono ?_); rintro e w9 ⟨rfl, hb⟩; refine ⟨_, rfl, ?_⟩; have n0_ := Aside0.mk (blk_below (g := gb114) (o := .cells #[.int .i8 a0_0, .int .i8 a0_1, .int .i8 a0_2] 94 (0, 0)) (by (with_reducible repeat (first | refine blk_drewN ?_ _ | refine blk_drew ?_ | refine blk_alloc ?_ _)); exact BK114.out) hb); have n1_ := Aside0.mk (blk_below (g := gb115) (o := .cells #[.int .i8 0, .int .i8 0, .int .i8 0] 90 (0, 0)) (by (with_reducible repeat (first | refine blk_drewN ?_ _ | refine blk_drew ?_ | refine blk_alloc ?_ _)); exact BK115.out) hb); have n2_ := Aside0.mk (blk_below (g := gb116) (o := .cells #[.int .i8 0, .int .i8 0, .int .i8 0] 90 (0, 0)) (by (with_reducible repeat (first | refine blk_drewN ?_ _ | refine blk_drew ?_ | refine blk_alloc ?_ _)); exact BK116.out) hb); have n3_ := Aside0.mk (below_step (by repeat (first | (with_reducible first | exact HB.out | apply below_alloc | apply pw_below_drewN | apply below_drew1 | refine below_set ?_ GE114.out | refine below_set ?_ GE115.out | refine below_set ?_ GE116.out) | exact HB.out)) hb); clear BK114; clear BK115; clear BK116; clear HB; have BK114 := n0_; have BK115 := n1_; have BK116 := n2_; have HB := n3_; clear n0_ n1_ n2_ n3_; (try clear hb); (try clear hb2); (try clear hk); (try clear hi); have hnb10 := NB116_115.out; have hnc10 := NB115_116.out; have hcz11_0 : w9.cell? ⟨gb116, 0, none⟩ = some (.int .i8 0) := (blk_cell BK116.out 0).trans rfl; have hcz11_1 : w9.cell? ⟨gb116, 1, none⟩ = some (.int .i8 0) := (blk_cell BK116.out 1).trans rfl; have hcz11_2 : w9.cell? ⟨gb116, 2, none⟩ = some (.int .i8 0) := (blk_cell BK116.out 2).trans rfl; have hfz11_0 := blk_frozen BK116.out 0; have hfz11_1 := blk_frozen BK116.out 1; have hfz11_2 := blk_frozen BK116.out 2; have hcz12_0 : w9.cell? ⟨gb114, 0, none⟩ = some (.int .i8 a0_0) := (blk_cell BK114.out 0).trans rfl; have hcz12_1 : w9.cell? ⟨gb114, 1, none⟩ = some (.int .i8 a0_1) := (blk_cell BK114.out 1).trans rfl; have hcz12_2 : w9.cell? ⟨gb114, 2, none⟩ = some (.int .i8 a0_2) := (blk_cell BK114.out 2).trans rfl; have hfz12_0 := blk_frozen BK114.out 0; have hfz12_1 := blk_frozen BK114.out 1; have hfz12_2 := blk_frozen BK114.out 2; have hcz13_0 : w9.cell? ⟨gb115, 0, none⟩ = some (.int .i8 0) := (blk_cell BK115.out 0).trans rfl; have hcz13_1 : w9.cell? ⟨gb115, 1, none⟩ = some (.int .i8 0) := (blk_cell BK115.out 1).trans rfl; have hcz13_2 : w9.cell? ⟨gb115, 2, none⟩ = some (.int .i8 0) := (blk_cell BK115.out 2).trans rfl; have hfz13_0 := blk_frozen BK115.out 0; have hfz13_1 := blk_frozen BK115.out 1; have hfz13_2 := blk_frozen BK115.out 2))
  refine bodyPost_ret (results_cell_row rfl _ _ gb115 90 #[.int .i8 t117, .int .i8 t118, .int .i8 a0_2] (0, 0) _ rfl (by (with_reducible repeat (first | refine blk_drewN ?_ _ | refine blk_drew ?_ | refine blk_alloc ?_ _)); refine blk_put (cs := #[.int .i8 t117, .int .i8 t118, .int .i8 0]) ?_ 2 _ rfl; (with_reducible repeat (first | refine blk_drewN ?_ _ | refine blk_drew ?_ | refine blk_alloc ?_ _)); refine blk_put (cs := #[.int .i8 t117, .int .i8 0, .int .i8 0]) ?_ 1 _ rfl; (with_reducible repeat (first | refine blk_drewN ?_ _ | refine blk_drew ?_ | refine blk_alloc ?_ _)); refine blk_put (cs := #[.int .i8 0, .int .i8 0, .int .i8 0]) ?_ 0 _ rfl; (with_reducible repeat (first | refine blk_drewN ?_ _ | refine blk_drew ?_ | refine blk_alloc ?_ _)); refine blk_far ?_ NB115_116.out _; (with_reducible repeat (first | refine blk_drewN ?_ _ | refine blk_drew ?_ | refine blk_alloc ?_ _)); refine blk_far ?_ NB115_116.out _; (with_reducible repeat (first | refine blk_drewN ?_ _ | refine blk_drew ?_ | refine blk_alloc ?_ _)); refine blk_far ?_ NB115_116.out _; (with_reducible repeat (first | refine blk_drewN ?_ _ | refine blk_drew ?_ | refine blk_alloc ?_ _)); exact BK115.out) Try.underlying90 rfl (by kernel_rfl)) rfl ?_
  exact ⟨by first | rfl | (simp [errW_none, errW_some] <;> rfl) | (simp [*, errW_none, errW_some] <;> rfl), by repeat (first | (with_reducible first | exact HB.out | apply below_alloc | apply pw_below_drewN | apply below_drew1 | refine below_set ?_ GE114.out | refine below_set ?_ GE115.out | refine below_set ?_ GE116.out) | exact HB.out)⟩

/-! ### laws_toCrewS: function 34 -/
def laws_toCrewS.l0 : Nat → List (S94) → List (S90) → Int → Option ((List (S90)))
  | 0, _, _, _ => none
  | k + 1, x0, x3, x4 => if x4 < (x0.length : Int) then (if 0 ≤ x4 then ((laws_toCrew.f ((rd_T94 x0 x4).f0.f0) ((rd_T94 x0 x4).f0.f1) ((rd_T94 x0 x4).f1)).bind fun bt123 => (if x4 < (x3.length : Int) then (laws_toCrewS.l0 k x0 (x3.set (x4 : Int).toNat (⟨(⟨bt123.1, bt123.2.1⟩ : S88), bt123.2.2⟩ : S90)) (wrap64 (x4 + 1))) else (none))) else (none)) else (some x3)
def laws_toCrewS.f (k : Nat) (l0 : List (S94)) : Option ((List (S90))) := if 0 ≤ (l0.length : Int) then (if ((l0.length : Int) : Int).toNat ≤ 93824992236885 then (laws_toCrewS.l0 k l0 (List.replicate ((l0.length : Int) : Int).toNat z90) 0) else (none)) else (none)
theorem laws_toCrewS.mono_l : ∀ k, (∀ y0 y1 y2, LeO (laws_toCrewS.l0 k y0 y1 y2) (laws_toCrewS.l0 (k + 1) y0 y1 y2))
  | 0 => fun _ _ _ r h => by simp [laws_toCrewS.l0] at h
  | k + 1 => by
    have ih0 := laws_toCrewS.mono_l k
    · intro y0 y1 y2
      unfold laws_toCrewS.l0
      repeat' first
      | (with_reducible exact ih0 _ _ _)
      | (with_reducible exact LeO.refl _)
      | (with_reducible exact LeO.none _)
      | (with_reducible refine LeO.ite ?_ ?_)
      | (with_reducible refine LeO.bind ?_ (fun _ => ?_))
      | exact ih0 _ _ _
      | exact LeO.none _
      | refine LeO.ite ?_ ?_
      | refine LeO.bind ?_ (fun _ => ?_)
theorem laws_toCrewS.mono : ∀ a0 k, LeO (laws_toCrewS.f k a0) (laws_toCrewS.f (k + 1) a0) := by
  intro a0 k
  have ih0 := laws_toCrewS.mono_l k
  unfold laws_toCrewS.f
  repeat' first
      | (with_reducible exact ih0 _ _ _)
      | (with_reducible exact LeO.refl _)
      | (with_reducible exact LeO.none _)
      | (with_reducible refine LeO.ite ?_ ?_)
      | (with_reducible refine LeO.bind ?_ (fun _ => ?_))
      | exact ih0 _ _ _
      | exact LeO.none _
      | refine LeO.ite ?_ ?_
      | refine LeO.bind ?_ (fun _ => ?_)
set_option maxHeartbeats 8000000 in
set_option maxRecDepth 100000 in
theorem laws_toCrewS.calls (k : Nat) (A0 : Option Addr) (c0 : Nat) (l0 : List (S94)) (r : List (S90)) (w : World) (hr0 : Kd.C k94 w A0 l0.length l0) (hc0 : l0.length ≤ c0) (h : laws_toCrewS.f k l0 = some r) :
    Calls Try.prog 34 #[.slice A0 l0.length c0] w fun e w' => ∃ v0_ : Value, e = .returned (v0_) ∧ Kd.R k90 90 w' w.heap.size (fun _ => True) v0_ r ∧ Below w.heap.size w w' := by
  have hu94 := Try.underlying94
  have hu90 := Try.underlying90
  have HR0 := Aside0.mk hr0
  have HC0 := Aside0.mk hc0
  clear hr0 hc0
  have HB := Aside0.mk (Below.refl w.heap.size w)
  have H : (if 0 ≤ (l0.length : Int) then (if ((l0.length : Int) : Int).toNat ≤ 93824992236885 then (laws_toCrewS.l0 k l0 (List.replicate ((l0.length : Int) : Int).toNat z90) 0) else (none)) else (none)) = some r := h
  clear h
  by_cases c2 : 0 ≤ (l0.length : Int)
  · rw [if_pos c2] at H
    have c2b0 := eq_true c2
    have c2b1 : decide (0 ≤ (l0.length : Int)) = true := decide_eq_true c2
    clear c2
    by_cases c3 : ((l0.length : Int) : Int).toNat ≤ 93824992236885
    · rw [if_pos c3] at H
      have c3b0 := eq_true c3
      have c3b1 : decide (((l0.length : Int) : Int).toNat ≤ 93824992236885) = true := decide_eq_true c3
      clear c3
      obtain ⟨y119, hy119⟩ : ∃ y_ : List (S90), y_ = (List.replicate ((l0.length : Int) : Int).toNat z90) := ⟨_, rfl⟩
      replace H : (laws_toCrewS.l0 k l0 y119 0) = some r := by first | (rw [hy119]; with_reducible exact H) | (have H2_ := (Option.bind_some _ _).symm.trans H; rw [hy119]; with_reducible exact H2_) | (have H2_ := (Option.bind_some _ _).symm.trans H; with_reducible exact H2_) | with_reducible exact H | (rw [hy119]; exact H) | exact H
      have Ny119 := Aside0.mk hy119
      clear hy119
      have H' := Aside0.mk H
      clear H
      go_enter Try.func34, Try.ntmps34
      go_wp2_with (first | ((with_reducible refine gate_dst (N := 7) rfl ?_); refine Kd.R_make k90 _ 90 rfl (N := 7) rfl 48 _ _ rfl (l0.length : Int) rfl rfl Try.underlying48 (.agg #[(.int .i8 0), (.int .i8 0), (.int .i8 0)]) 3 info90 rfl (by decide) (by omega) z90 (ok := fun _ => True) (okp := fun _ => True) (k90_mkM _ _ _ z90 ) (fun _ hk => hk) trivial (of_decide_eq_true (by first | (with_reducible assumption) | assumption)) (Nat.le_trans (Nat.mul_le_mul_right _ (of_decide_eq_true (by first | (with_reducible assumption) | assumption) : (l0.length : Int).toNat ≤ 93824992236885)) (by omega)) (Below.refl _ _) (Nat.le_refl _) ?_; intro v120 w4 ho5 hb hg_ hnew_; clear hg_ hnew_; (first | rw [← Ny119.out] at ho5 | (simp only [Int.reduceToNat] at ho5; rw [← Ny119.out] at ho5)); have n0_ := Aside0.mk (Kd.R_lower ho5 (below_size (by repeat (first | (with_reducible first | exact HB.out | apply below_alloc | apply pw_below_drewN | apply below_drew1) | exact HB.out)))); have n1_ := Aside0.mk (below_step (by repeat (first | (with_reducible first | exact HB.out | apply below_alloc | apply pw_below_drewN | apply below_drew1) | exact HB.out)) hb); clear HB; have HO121 := n0_; have HB := n1_; clear n0_ n1_; clear hb ho5))
      go_loopg [4] k (fun kq v4 w' => ∃ (x3_1 : List (S90)) (x4_1 : Int), v4 = .int .i64 x4_1 ∧ Aside0 (laws_toCrewS.l0 kq l0 x3_1 x4_1 = some r) ∧ Aside0 (kq ≤ k) ∧ Aside0 (Kd.R k90 90 w' w.heap.size (fun _ => True) v120 x3_1) ∧ Aside0 (Below w.heap.size w w'))
      case atStart => exact ⟨(y119), (0), (by first | rfl | (simp; done) | (simp [*]; done)), H', ⟨Nat.le_refl _⟩, ⟨by (with_reducible repeat (first | apply Kd.R_alloc | apply Kd.R_drewN | apply Kd.R_drew)); exact HO121.out⟩, ⟨by repeat (first | (with_reducible first | exact HB.out | apply below_alloc | apply pw_below_drewN | apply below_drew1) | exact HB.out)⟩⟩
      case round =>
        clear H'
        try clear c2
        try clear c2b0
        try clear c2b1
        try clear p2
        try clear c3
        try clear c3b0
        try clear c3b1
        obtain ⟨x3_1, x4_1, rfl, HA, HK1, HO_3, HB⟩ := hrel
        cases gk with
        | zero => exact absurd HA.out (by simp [laws_toCrewS.l0])
        | succ k1 =>
          have H := HA.out
          clear HA
          simp only [laws_toCrewS.l0] at H
          by_cases c6 : x4_1 < (l0.length : Int)
          · rw [if_pos c6] at H
            have c6b0 : decide (x4_1 < (l0.length : Int)) = true := decide_eq_true c6
            clear c6
            by_cases c7 : 0 ≤ x4_1
            · rw [if_pos c7] at H
              have c7b0 : decide (0 ≤ x4_1) = true := decide_eq_true c7
              clear c7
              replace H := Option.bind_eq_some_iff.mp H
              obtain ⟨⟨t123, t124, t125⟩, A80, H⟩ := H
              replace H : (if x4_1 < (x3_1.length : Int) then (laws_toCrewS.l0 k1 l0 (x3_1.set (x4_1 : Int).toNat (⟨(⟨t123, t124⟩ : S88), t125⟩ : S90)) (wrap64 (x4_1 + 1))) else (none)) = some r := H
              have A8 := Aside0.mk A80
              clear A80
              by_cases c9 : x4_1 < (x3_1.length : Int)
              · rw [if_pos c9] at H
                have c9b0 : decide (x4_1 < (x3_1.length : Int)) = true := decide_eq_true c9
                clear c9
                obtain ⟨y126, hy126⟩ : ∃ y_ : List (S90), y_ = (x3_1.set (x4_1 : Int).toNat (⟨(⟨t123, t124⟩ : S88), t125⟩ : S90)) := ⟨_, rfl⟩
                replace H : (laws_toCrewS.l0 k1 l0 y126 (wrap64 (x4_1 + 1))) = some r := by first | (rw [hy126]; with_reducible exact H) | (have H2_ := (Option.bind_some _ _).symm.trans H; rw [hy126]; with_reducible exact H2_) | (have H2_ := (Option.bind_some _ _).symm.trans H; with_reducible exact H2_) | with_reducible exact H | (rw [hy126]; exact H) | exact H
                have Ny126 := Aside0.mk hy126
                clear hy126
                have H' := Aside0.mk H
                clear H
                have p122 : 0 ≤ (x4_1 : Int) := of_decide_eq_true (by first | (with_reducible assumption) | assumption)
                have q122 : x4_1 < (l0.length : Int) := of_decide_eq_true (by first | (with_reducible assumption) | assumption)
                obtain ⟨ad122, e122, hx122_0, hx122_1, hx122_2⟩ := at_T94 HR0.out x4_1 p122 q122
                cases e122
                replace hx122_0 := (HB.out.cell (World.block_lt_of_cell? w _ hx122_0)).trans hx122_0
                replace hx122_1 := (HB.out.cell (World.block_lt_of_cell? w _ hx122_1)).trans hx122_1
                replace hx122_2 := (HB.out.cell (World.block_lt_of_cell? w _ hx122_2)).trans hx122_2
                replace p122 := eq_true p122
                replace q122 := eq_true q122
                go_wp2_with (first | ((with_reducible refine gate_callee (f := 72) rfl ?_); refine goesL_ (some 20) rfl rfl Try.func72 (by kernel_rfl) rfl #[.agg #[.int .i8 ((rd_T94 l0 x4_1).f0.f0), .int .i8 ((rd_T94 l0 x4_1).f0.f1), .int .i8 ((rd_T94 l0 x4_1).f1)]] rfl (by (try simp only [List.map_toArray, List.map_cons, List.map_nil]); first | done | rfl | (simp only [List.length_drop, List.length_take]; rfl)) ?_; (with_reducible refine (laws_toCrew.calls ((rd_T94 l0 x4_1).f0.f0) ((rd_T94 l0 x4_1).f0.f1) ((rd_T94 l0 x4_1).f1) t123 t124 t125 _ A8.out).mono ?_); rintro e w11 ⟨rfl, hb⟩; refine ⟨_, rfl, ?_⟩; have n0_ := Aside0.mk (Kd.R_below (by (with_reducible repeat (first | apply Kd.R_alloc | apply Kd.R_drewN | apply Kd.R_drew)); exact HO_3.out) hb); have n1_ := Aside0.mk (below_step (by repeat (first | (with_reducible first | exact HB.out | apply below_alloc | apply pw_below_drewN | apply below_drew1) | exact HB.out)) hb); clear HO_3; clear HB; have HO_3 := n0_; have HB := n1_; clear n0_ n1_; (try clear hb); (try clear hb2); (try clear hk); (try clear hi); have p10 : 0 ≤ (x4_1 : Int) := of_decide_eq_true (by first | (with_reducible assumption) | assumption); have q10 : (x4_1 : Int) < ((x3_1.length : Int) : Int) := of_decide_eq_true (by first | (with_reducible assumption) | assumption); obtain ⟨go10, co10, eo10, gb10, gl10, cl10, HG10⟩ := Kd.R_form HO_3.out (by omega); (first | cases eo10 | (injection eo10 with ea_ en_ ec_; (first | subst ea_ | (injection ea_ with ea_; subst ea_)); subst ec_; clear en_)); have GB10 := Aside0.mk gb10; have GG10 := Aside0.mk HG10; clear gb10 gl10 HG10; obtain ⟨ce10, hcl10, hM10, hcc10, hfr10⟩ := Kd.R_elem HO_3.out z90 (x4_1 : Int) p10 q10; obtain rfl := k90_openM hM10; have hx10_0 : w11.cell? ⟨go10, (x4_1 : Int).toNat * 3, none⟩ = some (.int .i8 ((rd_T90 x3_1 x4_1).f0.f0)) := hcc10 0 _ rfl; have hx10_1 : w11.cell? ⟨go10, (x4_1 : Int).toNat * 3 + 1, none⟩ = some (.int .i8 ((rd_T90 x3_1 x4_1).f0.f1)) := hcc10 1 _ rfl; have hx10_2 : w11.cell? ⟨go10, (x4_1 : Int).toNat * 3 + 2, none⟩ = some (.int .i8 ((rd_T90 x3_1 x4_1).f1)) := hcc10 2 _ rfl; have hf10_0 : w11.frozen? ⟨go10, (x4_1 : Int).toNat * 3, none⟩ = false := hfr10 0; have hf10_1 : w11.frozen? ⟨go10, (x4_1 : Int).toNat * 3 + 1, none⟩ = false := hfr10 1; have hf10_2 : w11.frozen? ⟨go10, (x4_1 : Int).toNat * 3 + 2, none⟩ = false := hfr10 2; clear hcl10 hcc10 hfr10 hM10; replace p10 := eq_true p10; replace q10 := eq_true q10; have HX12 := Aside0.mk (show Kd.R k90 90 w11 w.heap.size (fun _ => True) (.slice (some ⟨go10, 0, none⟩) x3_1.length co10) x3_1 from (by (with_reducible repeat (first | apply Kd.R_alloc | apply Kd.R_drewN | apply Kd.R_drew)); exact HO_3.out)); obtain ⟨ce12, hcl12, hM12, hcc12, hfr12⟩ := Kd.R_elem HX12.out z90 (x4_1 : Int) (of_decide_eq_true (by first | (with_reducible assumption) | assumption)) (by have h_ : (x4_1 : Int) < ((x3_1.length : Int) : Int) := of_decide_eq_true (by first | (with_reducible assumption) | assumption); first | exact h_ | (have e_ := (Kd.R_reads' HO_3.out).1; omega) | simpa using h_); obtain rfl := k90_openM hM12; have HP12 := Kd.R_seg HX12.out (x4_1 : Int) (of_decide_eq_true (by first | (with_reducible assumption) | assumption)) (by have h_ : (x4_1 : Int) < ((x3_1.length : Int) : Int) := of_decide_eq_true (by first | (with_reducible assumption) | assumption); first | exact h_ | (have e_ := (Kd.R_reads' HO_3.out).1; omega) | simpa using h_) (seg := [.int .i8 t123, .int .i8 t124, .int .i8 t125]) (j := 0) hcl12 hcc12 (show 3 ≤ 3 from by decide) (x' := (⟨(⟨t123, t124⟩ : S88), t125⟩ : S90)) (k90_mkM _ _ _ (⟨(⟨t123, t124⟩ : S88), t125⟩ : S90) ) (fun _ hk => hk); have hx12_0 := hcc12 0 _ rfl; (try simp only [show (k90).sz = 3 from rfl, Nat.mul_one, Nat.add_zero] at hx12_0); have hf12_0 := hfr12 0; (try simp only [show (k90).sz = 3 from rfl, Nat.mul_one, Nat.add_zero] at hf12_0); have hx12_1 := hcc12 1 _ rfl; (try simp only [show (k90).sz = 3 from rfl, Nat.mul_one, Nat.add_zero] at hx12_1); have hf12_1 := hfr12 1; (try simp only [show (k90).sz = 3 from rfl, Nat.mul_one, Nat.add_zero] at hf12_1); have hx12_2 := hcc12 2 _ rfl; (try simp only [show (k90).sz = 3 from rfl, Nat.mul_one, Nat.add_zero] at hx12_2); have hf12_2 := hfr12 2; (try simp only [show (k90).sz = 3 from rfl, Nat.mul_one, Nat.add_zero] at hf12_2); clear hcl12 hcc12 hfr12 hM12) | ((with_reducible refine gate_store (t := 90) (p := 21) rfl ?_); refine store_event (t := 90) (p := 21) (v := ?vo_w13) (w1 := (((w11.setCell ⟨go10, (x4_1 : Int).toNat * 3, none⟩ (.int .i8 t123)).setCell ⟨go10, (x4_1 : Int).toNat * 3 + 1, none⟩ (.int .i8 t124)).setCell ⟨go10, (x4_1 : Int).toNat * 3 + 2, none⟩ (.int .i8 t125))) ?hg ?ho ?hn ?hr ?_; (case ho => rfl); (case hg => rfl); (case hn => rfl); (case hr => first | (go_simp; done) | (go_simp; rfl)); intro w13 hw; have hg : w11.grownBy w13 (some go10) := (by rw [hw]; exact HP12.2); have hp_ : Kd.R k90 90 w13 w.heap.size (fun _ => True) (.slice (some ⟨go10, 0, none⟩) x3_1.length co10) y126 := (by rw [hw, Ny126.out]; exact HP12.1); clear HP12; have n0_ := Aside0.mk (hp_); have n1_ := Aside0.mk ((by rw [hw]; exact below_set (below_set (below_set (HB.out) GB10.out) GB10.out) GB10.out : Below w.heap.size w w13)); clear HO_3; clear HB; have HO_3 := n0_; have HB := n1_; clear n0_ n1_; clear hg hw hp_))
                go_roundg k1
                case measure => have := HK1.out; omega
                case rel => exact ⟨(y126), (wrap64 (x4_1 + 1)), (by first | rfl | (simp; done) | (simp [*]; done)), H', ⟨by have := HK1.out; omega⟩, ⟨by (with_reducible repeat (first | apply Kd.R_alloc | apply Kd.R_drewN | apply Kd.R_drew)); exact HO_3.out⟩, ⟨by repeat (first | (with_reducible first | exact HB.out | apply below_alloc | apply pw_below_drewN | apply below_drew1) | exact HB.out)⟩⟩
              · rw [if_neg c9] at H
                exact absurd H (by simp)
            · rw [if_neg c7] at H
              exact absurd H (by simp)
          · rw [if_neg c6] at H
            have c6b0 : decide (x4_1 < (l0.length : Int)) = false := decide_eq_false c6
            clear c6
            obtain rfl := Option.some.inj H
            go_wp2
            go_ret
            exact ⟨_, by first | rfl | (simp [errW_none, errW_some] <;> rfl) | (simp [*, errW_none, errW_some] <;> rfl), by (with_reducible repeat (first | apply Kd.R_alloc | apply Kd.R_drewN | apply Kd.R_drew)); exact HO_3.out, by repeat (first | (with_reducible first | exact HB.out | apply below_alloc | apply pw_below_drewN | apply below_drew1) | exact HB.out)⟩
    · rw [if_neg c3] at H
      exact absurd H (by simp)
  · rw [if_neg c2] at H
    exact absurd H (by simp)

/-! ### impl_isCount: function 107 -/
def impl_isCount.f (a0_0 : Int) (a0_1 : Int) (a0_2 : Int) : Option (Bool) := if a0_2 ≥ 1 then (some (decide (a0_2 ≤ 12))) else (some false)
set_option maxHeartbeats 8000000 in
set_option maxRecDepth 100000 in
theorem impl_isCount.calls (a0_0 : Int) (a0_1 : Int) (a0_2 : Int) (r : Bool) (w : World) (h : impl_isCount.f a0_0 a0_1 a0_2 = some r) :
    Calls Try.prog 107 #[.agg #[.int .i8 a0_0, .int .i8 a0_1, .int .i8 a0_2]] w fun e w' => e = .returned (.bool r) ∧ Below w.heap.size w w' := by
  have hu90 := Try.underlying90
  have HB := Aside0.mk (Below.refl w.heap.size w)
  have H : (if a0_2 ≥ 1 then (some (decide (a0_2 ≤ 12))) else (some false)) = some r := h
  clear h
  by_cases c2 : a0_2 ≥ 1
  · rw [if_pos c2] at H
    have c2b0 : decide (1 ≤ a0_2) = true := decide_eq_true c2
    clear c2
    obtain rfl := Option.some.inj H
    go_enter Try.func107, Try.ntmps107
    go_wp2_with (first | ((with_reducible refine gate_dst (N := 1) rfl ?_); refine box_event ?hg (N := 1) ?hd (cs := #[.int .i8 a0_0, .int .i8 a0_1, .int .i8 a0_2]) (t := 90) ?hr ?_; (case hd => rfl); (case hg => rfl); (case hr => first | (go_simp; done) | (go_simp; rfl)); intro gb127 hg w3 hbox hb; have n0_ := Aside0.mk (below_step (by repeat (first | (with_reducible first | exact HB.out | apply below_alloc | apply pw_below_drewN | apply below_drew1) | exact HB.out)) hb); have n1_ := Aside0.mk (hbox); have n2_ := Aside0.mk ((by rw [hg]; exact (below_size (by repeat (first | (with_reducible first | exact HB.out | apply below_alloc | apply pw_below_drewN | apply below_drew1) | exact HB.out))) : w.heap.size ≤ gb127)); have n3_ := Aside0.mk ((by rw [hg]; exact (below_size (by repeat (first | (with_reducible first | exact HB.out | apply below_alloc | apply pw_below_drewN | apply below_drew1) | exact HB.out))) : w.heap.size ≤ gb127)); clear HB; have HB := n0_; have BK127 := n1_; have GW127 := n2_; have GE127 := n3_; clear n0_ n1_ n2_ n3_; clear hb hbox hg; have hcz4_0 : w3.cell? ⟨gb127, 0, none⟩ = some (.int .i8 a0_0) := (blk_cell BK127.out 0).trans rfl; have hcz4_1 : w3.cell? ⟨gb127, 1, none⟩ = some (.int .i8 a0_1) := (blk_cell BK127.out 1).trans rfl; have hcz4_2 : w3.cell? ⟨gb127, 2, none⟩ = some (.int .i8 a0_2) := (blk_cell BK127.out 2).trans rfl; have hfz4_0 := blk_frozen BK127.out 0; have hfz4_1 := blk_frozen BK127.out 1; have hfz4_2 := blk_frozen BK127.out 2))
    go_ret
    exact ⟨by first | rfl | (simp [errW_none, errW_some] <;> rfl) | (simp [*, errW_none, errW_some] <;> rfl), by repeat (first | (with_reducible first | exact HB.out | apply below_alloc | apply pw_below_drewN | apply below_drew1 | refine below_set ?_ GE127.out) | exact HB.out)⟩
  · rw [if_neg c2] at H
    have c2b0 : decide (1 ≤ a0_2) = false := decide_eq_false c2
    clear c2
    obtain rfl := Option.some.inj H
    go_enter Try.func107, Try.ntmps107
    go_wp2_with (first | ((with_reducible refine gate_dst (N := 1) rfl ?_); refine box_event ?hg (N := 1) ?hd (cs := #[.int .i8 a0_0, .int .i8 a0_1, .int .i8 a0_2]) (t := 90) ?hr ?_; (case hd => rfl); (case hg => rfl); (case hr => first | (go_simp; done) | (go_simp; rfl)); intro gb127 hg w5 hbox hb; have n0_ := Aside0.mk (below_step (by repeat (first | (with_reducible first | exact HB.out | apply below_alloc | apply pw_below_drewN | apply below_drew1) | exact HB.out)) hb); have n1_ := Aside0.mk (hbox); have n2_ := Aside0.mk ((by rw [hg]; exact (below_size (by repeat (first | (with_reducible first | exact HB.out | apply below_alloc | apply pw_below_drewN | apply below_drew1) | exact HB.out))) : w.heap.size ≤ gb127)); have n3_ := Aside0.mk ((by rw [hg]; exact (below_size (by repeat (first | (with_reducible first | exact HB.out | apply below_alloc | apply pw_below_drewN | apply below_drew1) | exact HB.out))) : w.heap.size ≤ gb127)); clear HB; have HB := n0_; have BK127 := n1_; have GW127 := n2_; have GE127 := n3_; clear n0_ n1_ n2_ n3_; clear hb hbox hg; have hcz6_0 : w5.cell? ⟨gb127, 0, none⟩ = some (.int .i8 a0_0) := (blk_cell BK127.out 0).trans rfl; have hcz6_1 : w5.cell? ⟨gb127, 1, none⟩ = some (.int .i8 a0_1) := (blk_cell BK127.out 1).trans rfl; have hcz6_2 : w5.cell? ⟨gb127, 2, none⟩ = some (.int .i8 a0_2) := (blk_cell BK127.out 2).trans rfl; have hfz6_0 := blk_frozen BK127.out 0; have hfz6_1 := blk_frozen BK127.out 1; have hfz6_2 := blk_frozen BK127.out 2))
    go_ret
    exact ⟨by first | rfl | (simp [errW_none, errW_some] <;> rfl) | (simp [*, errW_none, errW_some] <;> rfl), by repeat (first | (with_reducible first | exact HB.out | apply below_alloc | apply pw_below_drewN | apply below_drew1 | refine below_set ?_ GE127.out) | exact HB.out)⟩

/-! ### impl_seatsCode: function 73 -/
mutual
def impl_seatsCode.l0 : Nat → Int → List (S90) → List (S90) → Int → Int → Option (Int)
  | 0, _, _, _, _, _ => none
  | k + 1, x0, x1, x7, x8, x9 => if x9 < x8 then (if 0 ≤ x9 then (if x9 < (x7.length : Int) then ((impl_isCount.f ((rd_T90 x7 x9).f0.f0) ((rd_T90 x7 x9).f0.f1) ((rd_T90 x7 x9).f1)).bind fun t130 => (if t130 = true then (impl_seatsCode.l0 k x0 x1 x7 x8 (wrap64 (x9 + 1))) else (some 1))) else (none)) else (none)) else (if x0 < 1 then (impl_seatsCode.j1 k x1 true) else (impl_seatsCode.j1 k x1 (decide (x0 > 12))))
def impl_seatsCode.j1 : Nat → List (S90) → Bool → Option (Int)
  | 0, _, _ => none
  | k + 1, x1, x17 => if x17 = true then (some 2) else (if (x1.length : Int) > 6 then (some 3) else (some 0))
end
def impl_seatsCode.f (k : Nat) (a0 : Int) (l1 : List (S90)) : Option (Int) := impl_seatsCode.l0 k a0 l1 l1 (l1.length : Int) 0
theorem impl_seatsCode.mono_l : ∀ k, (∀ y0 y1 y2 y3 y4, LeO (impl_seatsCode.l0 k y0 y1 y2 y3 y4) (impl_seatsCode.l0 (k + 1) y0 y1 y2 y3 y4)) ∧ (∀ y0 y1, LeO (impl_seatsCode.j1 k y0 y1) (impl_seatsCode.j1 (k + 1) y0 y1))
  | 0 => ⟨fun _ _ _ _ _ r h => by simp [impl_seatsCode.l0] at h, fun _ _ r h => by simp [impl_seatsCode.j1] at h⟩
  | k + 1 => by
    obtain ⟨ih0, ih1⟩ := impl_seatsCode.mono_l k
    refine ⟨?_, ?_⟩
    · intro y0 y1 y2 y3 y4
      unfold impl_seatsCode.l0
      repeat' first
      | (with_reducible exact ih0 _ _ _ _ _)
      | (with_reducible exact ih1 _ _)
      | (with_reducible exact LeO.refl _)
      | (with_reducible exact LeO.none _)
      | (with_reducible refine LeO.ite ?_ ?_)
      | (with_reducible refine LeO.bind ?_ (fun _ => ?_))
      | exact ih0 _ _ _ _ _
      | exact ih1 _ _
      | exact LeO.none _
      | refine LeO.ite ?_ ?_
      | refine LeO.bind ?_ (fun _ => ?_)
    · intro y0 y1
      unfold impl_seatsCode.j1
      repeat' first
      | (with_reducible exact ih0 _ _ _ _ _)
      | (with_reducible exact ih1 _ _)
      | (with_reducible exact LeO.refl _)
      | (with_reducible exact LeO.none _)
      | (with_reducible refine LeO.ite ?_ ?_)
      | (with_reducible refine LeO.bind ?_ (fun _ => ?_))
      | exact ih0 _ _ _ _ _
      | exact ih1 _ _
      | exact LeO.none _
      | refine LeO.ite ?_ ?_
      | refine LeO.bind ?_ (fun _ => ?_)
theorem impl_seatsCode.mono : ∀ a0 a1 k, LeO (impl_seatsCode.f k a0 a1) (impl_seatsCode.f (k + 1) a0 a1) := by
  intro a0 a1 k
  obtain ⟨ih0, ih1⟩ := impl_seatsCode.mono_l k
  unfold impl_seatsCode.f
  repeat' first
      | (with_reducible exact ih0 _ _ _ _ _)
      | (with_reducible exact ih1 _ _)
      | (with_reducible exact LeO.refl _)
      | (with_reducible exact LeO.none _)
      | (with_reducible refine LeO.ite ?_ ?_)
      | (with_reducible refine LeO.bind ?_ (fun _ => ?_))
      | exact ih0 _ _ _ _ _
      | exact ih1 _ _
      | exact LeO.none _
      | refine LeO.ite ?_ ?_
      | refine LeO.bind ?_ (fun _ => ?_)
set_option maxHeartbeats 8000000 in
set_option maxRecDepth 100000 in
theorem impl_seatsCode.calls (k : Nat) (a0 : Int) (A1 : Option Addr) (c1 : Nat) (l1 : List (S90)) (r : Int) (w : World) (hr1 : Kd.C k90 w A1 l1.length l1) (hc1 : l1.length ≤ c1) (h : impl_seatsCode.f k a0 l1 = some r) :
    Calls Try.prog 73 #[.int .i64 a0, .slice A1 l1.length c1] w fun e w' => e = .returned (.int .i64 r) ∧ Below w.heap.size w w' := by
  have hu90 := Try.underlying90
  have HR1 := Aside0.mk hr1
  have HC1 := Aside0.mk hc1
  clear hr1 hc1
  have HB := Aside0.mk (Below.refl w.heap.size w)
  have H : (impl_seatsCode.l0 k a0 l1 l1 (l1.length : Int) 0) = some r := h
  clear h
  have H' := Aside0.mk H
  clear H
  go_enter Try.func73, Try.ntmps73
  go_wp2
  go_loopg [9] k (fun kq v9 w' => ∃ (x9_1 : Int), v9 = .int .i64 x9_1 ∧ Aside0 (impl_seatsCode.l0 kq a0 l1 l1 (l1.length : Int) x9_1 = some r) ∧ Aside0 (kq ≤ k) ∧ Aside0 (Below w.heap.size w w'))
  case atStart => exact ⟨(0), (by first | rfl | (simp; done) | (simp [*]; done)), H', ⟨Nat.le_refl _⟩, ⟨by repeat (first | (with_reducible first | exact HB.out | apply below_alloc | apply pw_below_drewN | apply below_drew1) | exact HB.out)⟩⟩
  case round =>
    clear H'
    try clear c1
    try clear p2
    obtain ⟨x9_1, rfl, HA, HK1, HB⟩ := hrel
    cases gk with
    | zero => exact absurd HA.out (by simp [impl_seatsCode.l0])
    | succ k1 =>
      have H := HA.out
      clear HA
      simp only [impl_seatsCode.l0] at H
      by_cases c3 : x9_1 < (l1.length : Int)
      · rw [if_pos c3] at H
        have c3b0 : decide (x9_1 < (l1.length : Int)) = true := decide_eq_true c3
        clear c3
        by_cases c4 : 0 ≤ x9_1
        · rw [if_pos c4] at H
          have c4b0 : decide (0 ≤ x9_1) = true := decide_eq_true c4
          clear c4
          by_cases c5 : x9_1 < (l1.length : Int)
          · rw [if_pos c5] at H
            have c5b0 : decide (x9_1 < (l1.length : Int)) = true := decide_eq_true c5
            clear c5
            replace H := Option.bind_eq_some_iff.mp H
            obtain ⟨t130, A60, H⟩ := H
            replace H : (if t130 = true then (impl_seatsCode.l0 k1 a0 l1 l1 (l1.length : Int) (wrap64 (x9_1 + 1))) else (some 1)) = some r := H
            have A6 := Aside0.mk A60
            clear A60
            by_cases c7 : t130 = true
            · subst c7
              have H1 : (impl_seatsCode.l0 k1 a0 l1 l1 (l1.length : Int) (wrap64 (x9_1 + 1))) = some r := by rw [if_pos rfl] at H; exact H
              clear H
              have H := H1
              clear H1
              have H' := Aside0.mk H
              clear H
              have p128 : 0 ≤ (x9_1 : Int) := of_decide_eq_true (by first | (with_reducible assumption) | assumption)
              have q128 : x9_1 < (l1.length : Int) := of_decide_eq_true (by first | (with_reducible assumption) | assumption)
              obtain ⟨ad128, e128, hx128_0, hx128_1, hx128_2⟩ := at_T90 HR1.out x9_1 p128 q128
              cases e128
              replace hx128_0 := (HB.out.cell (World.block_lt_of_cell? w _ hx128_0)).trans hx128_0
              replace hx128_1 := (HB.out.cell (World.block_lt_of_cell? w _ hx128_1)).trans hx128_1
              replace hx128_2 := (HB.out.cell (World.block_lt_of_cell? w _ hx128_2)).trans hx128_2
              replace p128 := eq_true p128
              replace q128 := eq_true q128
              go_wp2_with (first | ((with_reducible refine gate_dst (N := 6) rfl ?_); refine box_event ?hg (N := 6) ?hd (cs := #[.int .i8 0, .int .i8 0, .int .i8 0]) (t := 90) ?hr ?_; (case hd => rfl); (case hg => rfl); (case hr => first | (go_simp; done) | (go_simp; rfl)); intro gb129 hg w8 hbox hb; have n0_ := Aside0.mk (below_step (by repeat (first | (with_reducible first | exact HB.out | apply below_alloc | apply pw_below_drewN | apply below_drew1) | exact HB.out)) hb); have n1_ := Aside0.mk (hbox); have n2_ := Aside0.mk ((by rw [hg]; exact (below_size (by repeat (first | (with_reducible first | exact HB.out | apply below_alloc | apply pw_below_drewN | apply below_drew1) | exact HB.out))) : w.heap.size ≤ gb129)); have n3_ := Aside0.mk ((by rw [hg]; exact (below_size (by repeat (first | (with_reducible first | exact HB.out | apply below_alloc | apply pw_below_drewN | apply below_drew1) | exact HB.out))) : w.heap.size ≤ gb129)); clear HB; have HB := n0_; have BK129 := n1_; have GW129 := n2_; have GE129 := n3_; clear n0_ n1_ n2_ n3_; clear hb hbox hg; have hcz9_0 : w8.cell? ⟨gb129, 0, none⟩ = some (.int .i8 0) := (blk_cell BK129.out 0).trans rfl; have hcz9_1 : w8.cell? ⟨gb129, 1, none⟩ = some (.int .i8 0) := (blk_cell BK129.out 1).trans rfl; have hcz9_2 : w8.cell? ⟨gb129, 2, none⟩ = some (.int .i8 0) := (blk_cell BK129.out 2).trans rfl; have hfz9_0 := blk_frozen BK129.out 0; have hfz9_1 := blk_frozen BK129.out 1; have hfz9_2 := blk_frozen BK129.out 2) | ((with_reducible refine gate_callee (f := 107) rfl ?_); refine goesL_ (some 14) rfl rfl Try.func107 (by kernel_rfl) rfl #[.agg #[.int .i8 ((rd_T90 l1 x9_1).f0.f0), .int .i8 ((rd_T90 l1 x9_1).f0.f1), .int .i8 ((rd_T90 l1 x9_1).f1)]] rfl (by (try simp only [List.map_toArray, List.map_cons, List.map_nil]); first | done | rfl | (simp only [List.length_drop, List.length_take]; rfl)) ?_; (with_reducible refine (impl_isCount.calls ((rd_T90 l1 x9_1).f0.f0) ((rd_T90 l1 x9_1).f0.f1) ((rd_T90 l1 x9_1).f1) true _ A6.out).mono ?_); rintro e w10 ⟨rfl, hb⟩; refine ⟨_, rfl, ?_⟩; have n0_ := Aside0.mk (blk_below (g := gb129) (o := .cells #[.int .i8 ((rd_T90 l1 x9_1).f0.f0), .int .i8 ((rd_T90 l1 x9_1).f0.f1), .int .i8 ((rd_T90 l1 x9_1).f1)] 90 (0, 0)) (by (with_reducible repeat (first | refine blk_drewN ?_ _ | refine blk_drew ?_ | refine blk_alloc ?_ _)); refine blk_put (cs := #[.int .i8 ((rd_T90 l1 x9_1).f0.f0), .int .i8 ((rd_T90 l1 x9_1).f0.f1), .int .i8 0]) ?_ 2 _ rfl; (with_reducible repeat (first | refine blk_drewN ?_ _ | refine blk_drew ?_ | refine blk_alloc ?_ _)); refine blk_put (cs := #[.int .i8 ((rd_T90 l1 x9_1).f0.f0), .int .i8 0, .int .i8 0]) ?_ 1 _ rfl; (with_reducible repeat (first | refine blk_drewN ?_ _ | refine blk_drew ?_ | refine blk_alloc ?_ _)); refine blk_put (cs := #[.int .i8 0, .int .i8 0, .int .i8 0]) ?_ 0 _ rfl; (with_reducible repeat (first | refine blk_drewN ?_ _ | refine blk_drew ?_ | refine blk_alloc ?_ _)); exact BK129.out) hb); have n1_ := Aside0.mk (below_step (by repeat (first | (with_reducible first | exact HB.out | apply below_alloc | apply pw_below_drewN | apply below_drew1 | refine below_set ?_ GE129.out) | exact HB.out)) hb); clear BK129; clear HB; have BK129 := n0_; have HB := n1_; clear n0_ n1_; (try clear hb); (try clear hb2); (try clear hk); (try clear hi)))
              go_roundg k1
              case measure => have := HK1.out; omega
              case rel => exact ⟨(wrap64 (x9_1 + 1)), (by first | rfl | (simp; done) | (simp [*]; done)), H', ⟨by have := HK1.out; omega⟩, ⟨by repeat (first | (with_reducible first | exact HB.out | apply below_alloc | apply pw_below_drewN | apply below_drew1 | refine below_set ?_ GE129.out) | exact HB.out)⟩⟩
            · replace c7 := Bool.eq_false_iff.mpr c7
              subst c7
              have H1 : (some 1) = some r := by rw [if_neg (show ¬ (false = true) by decide)] at H; exact H
              clear H
              have H := H1
              clear H1
              obtain rfl := Option.some.inj H
              have p128 : 0 ≤ (x9_1 : Int) := of_decide_eq_true (by first | (with_reducible assumption) | assumption)
              have q128 : x9_1 < (l1.length : Int) := of_decide_eq_true (by first | (with_reducible assumption) | assumption)
              obtain ⟨ad128, e128, hx128_0, hx128_1, hx128_2⟩ := at_T90 HR1.out x9_1 p128 q128
              cases e128
              replace hx128_0 := (HB.out.cell (World.block_lt_of_cell? w _ hx128_0)).trans hx128_0
              replace hx128_1 := (HB.out.cell (World.block_lt_of_cell? w _ hx128_1)).trans hx128_1
              replace hx128_2 := (HB.out.cell (World.block_lt_of_cell? w _ hx128_2)).trans hx128_2
              replace p128 := eq_true p128
              replace q128 := eq_true q128
              go_wp2_with (first | ((with_reducible refine gate_dst (N := 6) rfl ?_); refine box_event ?hg (N := 6) ?hd (cs := #[.int .i8 0, .int .i8 0, .int .i8 0]) (t := 90) ?hr ?_; (case hd => rfl); (case hg => rfl); (case hr => first | (go_simp; done) | (go_simp; rfl)); intro gb129 hg w11 hbox hb; have n0_ := Aside0.mk (below_step (by repeat (first | (with_reducible first | exact HB.out | apply below_alloc | apply pw_below_drewN | apply below_drew1) | exact HB.out)) hb); have n1_ := Aside0.mk (hbox); have n2_ := Aside0.mk ((by rw [hg]; exact (below_size (by repeat (first | (with_reducible first | exact HB.out | apply below_alloc | apply pw_below_drewN | apply below_drew1) | exact HB.out))) : w.heap.size ≤ gb129)); have n3_ := Aside0.mk ((by rw [hg]; exact (below_size (by repeat (first | (with_reducible first | exact HB.out | apply below_alloc | apply pw_below_drewN | apply below_drew1) | exact HB.out))) : w.heap.size ≤ gb129)); clear HB; have HB := n0_; have BK129 := n1_; have GW129 := n2_; have GE129 := n3_; clear n0_ n1_ n2_ n3_; clear hb hbox hg; have hcz12_0 : w11.cell? ⟨gb129, 0, none⟩ = some (.int .i8 0) := (blk_cell BK129.out 0).trans rfl; have hcz12_1 : w11.cell? ⟨gb129, 1, none⟩ = some (.int .i8 0) := (blk_cell BK129.out 1).trans rfl; have hcz12_2 : w11.cell? ⟨gb129, 2, none⟩ = some (.int .i8 0) := (blk_cell BK129.out 2).trans rfl; have hfz12_0 := blk_frozen BK129.out 0; have hfz12_1 := blk_frozen BK129.out 1; have hfz12_2 := blk_frozen BK129.out 2) | ((with_reducible refine gate_callee (f := 107) rfl ?_); refine goesL_ (some 14) rfl rfl Try.func107 (by kernel_rfl) rfl #[.agg #[.int .i8 ((rd_T90 l1 x9_1).f0.f0), .int .i8 ((rd_T90 l1 x9_1).f0.f1), .int .i8 ((rd_T90 l1 x9_1).f1)]] rfl (by (try simp only [List.map_toArray, List.map_cons, List.map_nil]); first | done | rfl | (simp only [List.length_drop, List.length_take]; rfl)) ?_; (with_reducible refine (impl_isCount.calls ((rd_T90 l1 x9_1).f0.f0) ((rd_T90 l1 x9_1).f0.f1) ((rd_T90 l1 x9_1).f1) false _ A6.out).mono ?_); rintro e w13 ⟨rfl, hb⟩; refine ⟨_, rfl, ?_⟩; have n0_ := Aside0.mk (blk_below (g := gb129) (o := .cells #[.int .i8 ((rd_T90 l1 x9_1).f0.f0), .int .i8 ((rd_T90 l1 x9_1).f0.f1), .int .i8 ((rd_T90 l1 x9_1).f1)] 90 (0, 0)) (by (with_reducible repeat (first | refine blk_drewN ?_ _ | refine blk_drew ?_ | refine blk_alloc ?_ _)); refine blk_put (cs := #[.int .i8 ((rd_T90 l1 x9_1).f0.f0), .int .i8 ((rd_T90 l1 x9_1).f0.f1), .int .i8 0]) ?_ 2 _ rfl; (with_reducible repeat (first | refine blk_drewN ?_ _ | refine blk_drew ?_ | refine blk_alloc ?_ _)); refine blk_put (cs := #[.int .i8 ((rd_T90 l1 x9_1).f0.f0), .int .i8 0, .int .i8 0]) ?_ 1 _ rfl; (with_reducible repeat (first | refine blk_drewN ?_ _ | refine blk_drew ?_ | refine blk_alloc ?_ _)); refine blk_put (cs := #[.int .i8 0, .int .i8 0, .int .i8 0]) ?_ 0 _ rfl; (with_reducible repeat (first | refine blk_drewN ?_ _ | refine blk_drew ?_ | refine blk_alloc ?_ _)); exact BK129.out) hb); have n1_ := Aside0.mk (below_step (by repeat (first | (with_reducible first | exact HB.out | apply below_alloc | apply pw_below_drewN | apply below_drew1 | refine below_set ?_ GE129.out) | exact HB.out)) hb); clear BK129; clear HB; have BK129 := n0_; have HB := n1_; clear n0_ n1_; (try clear hb); (try clear hb2); (try clear hk); (try clear hi)))
              go_ret
              exact ⟨by first | rfl | (simp [errW_none, errW_some] <;> rfl) | (simp [*, errW_none, errW_some] <;> rfl), by repeat (first | (with_reducible first | exact HB.out | apply below_alloc | apply pw_below_drewN | apply below_drew1 | refine below_set ?_ GE129.out) | exact HB.out)⟩
          · rw [if_neg c5] at H
            exact absurd H (by simp)
        · rw [if_neg c4] at H
          exact absurd H (by simp)
      · rw [if_neg c3] at H
        have c3b0 : decide (x9_1 < (l1.length : Int)) = false := decide_eq_false c3
        clear c3
        have HC14 := Aside0.mk H
        clear H
        go_upto_region 7 with (fail)
        go_cut [17] (fun v17 wc => ∃ (kq : Nat) (x17_13 : Bool), v17 = .bool x17_13 ∧ Aside0 (impl_seatsCode.j1 kq l1 x17_13 = some r) ∧ Aside0 (kq ≤ k1) ∧ Aside0 (Below w.heap.size w wc))
        case first =>
          have H := HC14.out
          clear HC14
          by_cases c15 : a0 < 1
          · rw [if_pos c15] at H
            have c15b0 : decide (a0 < 1) = true := decide_eq_true c15
            clear c15
            (first | rw [c15b0] | (simp only [i64_w, i32_w]; rw [c15b0]) | skip)
            have H' := Aside0.mk H
            clear H
            go_wp2
            go_meet
            case rel => exact ⟨_, (true), (by first | rfl | (simp; done) | (simp [*]; done)), H', ⟨by have := HK1.out; first | omega | exact Nat.le_refl _⟩, ⟨by repeat (first | (with_reducible first | exact HB.out | apply below_alloc | apply pw_below_drewN | apply below_drew1) | exact HB.out)⟩⟩
          · rw [if_neg c15] at H
            have c15b0 : decide (a0 < 1) = false := decide_eq_false c15
            clear c15
            (first | rw [c15b0] | (simp only [i64_w, i32_w]; rw [c15b0]) | skip)
            have H' := Aside0.mk H
            clear H
            go_wp2
            go_meet
            case rel => exact ⟨_, (decide (a0 > 12)), (by first | rfl | (simp; done) | (simp [*]; done)), H', ⟨by have := HK1.out; first | omega | exact Nat.le_refl _⟩, ⟨by repeat (first | (with_reducible first | exact HB.out | apply below_alloc | apply pw_below_drewN | apply below_drew1) | exact HB.out)⟩⟩
        case rest =>
          clear HC14
          try clear c1
          try clear p1
          try clear q1
          try clear hx1
          try clear p2
          try clear c3
          try clear c3b0
          try clear c4
          try clear c4b0
          try clear c5
          try clear c5b0
          try clear p6
          try clear c7
          try clear c10
          try clear p12
          try clear q12
          try clear hx12
          try clear c15
          try clear c15b0
          try clear hcz12_0
          try clear hcz12_1
          try clear hcz12_2
          try clear hcz9_0
          try clear hcz9_1
          try clear hcz9_2
          try clear hfz12_0
          try clear hfz12_1
          try clear hfz12_2
          try clear hfz9_0
          try clear hfz9_1
          try clear hfz9_2
          try clear hx128_0
          try clear hx128_1
          try clear hx128_2
          try clear p128
          try clear p2
          try clear q128
          obtain ⟨kq, x17_13, rfl, HA, HJ13, HB⟩ := hcut
          cases kq with
          | zero => exact absurd HA.out (by simp [impl_seatsCode.j1])
          | succ kj13 =>
            have H := HA.out
            clear HA
            simp only [impl_seatsCode.j1] at H
            by_cases c16 : x17_13 = true
            · subst c16
              have H1 : (some 2) = some r := by rw [if_pos rfl] at H; exact H
              clear H
              have H := H1
              clear H1
              obtain rfl := Option.some.inj H
              go_wp2
              go_ret
              exact ⟨by first | rfl | (simp [errW_none, errW_some] <;> rfl) | (simp [*, errW_none, errW_some] <;> rfl), by repeat (first | (with_reducible first | exact HB.out | apply below_alloc | apply pw_below_drewN | apply below_drew1) | exact HB.out)⟩
            · replace c16 := Bool.eq_false_iff.mpr c16
              subst c16
              have H1 : (if (l1.length : Int) > 6 then (some 3) else (some 0)) = some r := by rw [if_neg (show ¬ (false = true) by decide)] at H; exact H
              clear H
              have H := H1
              clear H1
              by_cases c17 : (l1.length : Int) > 6
              · rw [if_pos c17] at H
                have c17b0 : decide (6 < (l1.length : Int)) = true := decide_eq_true c17
                have c17b1 : decide (6 < l1.length) = true := decide_eq_true (by omega)
                clear c17
                obtain rfl := Option.some.inj H
                go_wp2
                go_ret
                exact ⟨by first | rfl | (simp [errW_none, errW_some] <;> rfl) | (simp [*, errW_none, errW_some] <;> rfl), by repeat (first | (with_reducible first | exact HB.out | apply below_alloc | apply pw_below_drewN | apply below_drew1) | exact HB.out)⟩
              · rw [if_neg c17] at H
                have c17b0 : decide (6 < (l1.length : Int)) = false := decide_eq_false c17
                have c17b1 : decide (6 < l1.length) = false := decide_eq_false (by omega)
                clear c17
                obtain rfl := Option.some.inj H
                go_wp2
                go_ret
                exact ⟨by first | rfl | (simp [errW_none, errW_some] <;> rfl) | (simp [*, errW_none, errW_some] <;> rfl), by repeat (first | (with_reducible first | exact HB.out | apply below_alloc | apply pw_below_drewN | apply below_drew1) | exact HB.out)⟩

/-! ### slices_Clone_int64_int64: function 90: this session's own text -/
def slices_Clone_int64_int64.f (l0 : List Int) : Option (List Int) := if l0.length < 17592186044416 then some l0 else none
set_option maxHeartbeats 8000000 in
set_option maxRecDepth 100000 in
theorem slices_Clone_int64_int64.calls (A0 : Option Addr) (c0 : Nat) (l0 : List Int) (r : List Int) (w : World) (hr0 : Kd.C (Kd.int .i64) w A0 l0.length l0) (hc0 : l0.length ≤ c0) (h : slices_Clone_int64_int64.f l0 = some r) :
    Calls Try.prog 90 #[.slice A0 l0.length c0] w fun e w' => ∃ v0_ : Value, e = .returned (v0_) ∧ Kd.R (Kd.int .i64) 2 w' w.heap.size (fun _ => True) v0_ r ∧ Below w.heap.size w w' := by
  have hq : ∀ (w : World) (a : Option Addr) (n c n' c' : Nat), (binOp .eql 30 (.slice a n c) (.slice none n' c')).run Try.prog w = .ok (.bool a.isNone) w := fun w a n c n' c' => Lib.run_eql_slice_nil w _ _ a n c n' c' Try.underlying30
  have HR0 := Aside0.mk hr0
  have HC0 := Aside0.mk hc0
  clear hr0 hc0
  have HB := Aside0.mk (Below.refl w.heap.size w)
  unfold slices_Clone_int64_int64.f at h
  by_cases c2 : l0.length < 17592186044416
  · rw [if_pos c2] at h
    have LMc2 := Aside0.mk c2
    clear c2
    have HE := Aside0.mk (Option.some.inj h)
    clear h
    cases A0 with
    | none =>
      have HN : Aside0 (l0 = []) := ⟨by
        rcases Nat.eq_zero_or_pos l0.length with h0 | h0
        · exact List.length_eq_zero_iff.1 h0
        · obtain ⟨ad, e, _⟩ := HR0.out.2.2 h0
          cases e⟩
      go_enter Try.func90, Try.ntmps90
      go_wp2
      go_ret
      refine ⟨_, rfl, ?_, Below.refl _ _⟩
      rw [← HE.out, HN.out]
      exact Kd.R_nil _ _ _ _ _
    | some a =>
      obtain ⟨y107, hy107⟩ : ∃ y_ : List Int, y_ = (([] : List Int)) := ⟨_, rfl⟩
      have Ny107 := Aside0.mk hy107
      have NL : Aside0 (y107.length + l0.length < 17592186044416) := ⟨by rw [hy107]; have := LMc2.out; simpa using this⟩
      have Ny110 : Aside0 (r = y107 ++ l0) := ⟨by rw [hy107, ← HE.out]; rfl⟩
      clear hy107
      go_enter Try.func90, Try.ntmps90
      go_wp2_with (first | ((with_reducible refine gate_dst (N := 5) rfl ?_); refine Kd.R_lit (Kd.int .i64) _ 2 ?hg (N := 5) ?hd (xs := ([] : List Int)) (inner := []) (ok := fun _ => True) (okp := fun _ => True) ?hr ?hp (fun _ hk => hk) trivial (Below.refl _ _) (Nat.le_refl _) (by simp) ?_; (case hd => rfl); (case hg => rfl); (case hr => first | (go_simp; done) | (go_simp; rfl)); (case hp => exact (Reps.none _ _)); intro v108 w3 ho4 hb hg_ hnew_; clear hg_ hnew_; (first | rw [← Ny107.out] at ho4 | (simp only [Int.reduceToNat] at ho4; rw [← Ny107.out] at ho4)); have n0_ := Aside0.mk (Kd.R_lower ho4 (below_size (by repeat (first | (with_reducible first | exact HB.out | apply below_alloc | apply pw_below_drewN | apply below_drew1) | exact HB.out)))); have n1_ := Aside0.mk (below_step (by repeat (first | (with_reducible first | exact HB.out | apply below_alloc | apply pw_below_drewN | apply below_drew1) | exact HB.out)) hb); clear HB; have HO109 := n0_; have HB := n1_; clear n0_ n1_; clear hb ho4) | ((with_reducible refine gate_builtin (b := .append) (xs := #[.tmp 5, .tmp 6]) rfl ?_); at_builtin; refine Kd.R_append_rows (Kd.int .i64) (w0 := w) w.heap.size rfl (.tmp 5) (.tmp 6) 30 2 (.int .i64 0) 8 rfl Try.underlying30 infoI64 rfl (by decide) (by omega) v108 y107 l0 _ _ _ (fun _ => True) (fun _ => False) rfl rfl ?aO ?aR (fun _ _ h => h) (fun _ h => h.elim) ?aF ?aB ?aS ?aL ?_; (case aR => repeat (first | exact (Kd.C_below HR0.out HB.out) | (with_reducible refine Kd.C_alloc ?_ _) | (with_reducible refine Kd.C_drewN ?_ _) | (with_reducible refine Kd.C_drew ?_))); (case aB => exact (by repeat (first | (with_reducible first | exact HB.out | apply below_alloc | apply pw_below_drewN | apply below_drew1) | exact HB.out))); (case aF => exact (fun _ _ => trivial)); (case aO => exact (by (with_reducible repeat (first | apply Kd.R_alloc | apply Kd.R_drewN | apply Kd.R_drew)); exact HO109.out)); (case aS => exact (below_size (by repeat (first | (with_reducible first | exact HB.out | apply below_alloc | apply pw_below_drewN | apply below_drew1) | exact HB.out)))); (case aL => have := NL.out; omega); intro v111 w5 ho hb hg hat; rw [← Ny110.out] at ho; have n0_ := Aside0.mk (hb); have n1_ := Aside0.mk (ho); clear HB; clear HO109; have HB := n0_; have HO112 := n1_; clear n0_ n1_; clear ho hb hg hat))
      go_ret
      exact ⟨_, by first | rfl | (simp; done), by (with_reducible repeat (first | apply Kd.R_alloc | apply Kd.R_drewN | apply Kd.R_drew)); exact HO112.out, by repeat (first | (with_reducible first | exact HB.out | apply below_alloc | apply pw_below_drewN | apply below_drew1) | exact HB.out)⟩
  · rw [if_neg c2] at h
    cases h

end Go.Proofs.Ytpimdgkofgendaa.PFnExactFewestTrips
