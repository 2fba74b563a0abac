/- Printed by this session's plus.py out of the translation, some functions' texts being this session's own. -/
import Derived.Test.YtpimdgkofgendaaPFnExactFewestTripsx0
import Derived.Test.YtpimdgkofgendaaPFnExactFewestTripsx1
import Derived.Test.YtpimdgkofgendaaPFnExactFewestTripsx2
namespace Go.Proofs.Ytpimdgkofgendaa.PFnExactFewestTrips
open Go.RowKit Go.Proofs.YtpimdgkofgendaaW.PrintWords Go.Proofs.YtpimdgkofgendaaW.PrintLast Go.Proofs.YtpimdgkofgendaaW.PrintMore
attribute [local go_sem] max2_int min2_int max_two min_two max_three min_three max_four min_four   -- for this text's walks alone
set_option linter.unusedVariables false
set_option linter.unusedSimpArgs false

/-! ### impl_partings: function 101: this session's own text -/
/-- One number appended where there is room, as one step of a region that draws its order. -/
theorem step_room_one {P : Program} {ops : Array Oper} {o : Oper} {a : Act} {w : World} {K : Act → World → Prop} {Q : Exit → Act → World → Prop} {E : Prop}
    (hw : Region.wanted o (yielded ops a.tmps) = true) (s x : Operand) (t : TypeId) (hop : o.op = Op.call { callee := Callee.builtin Builtin.append, args := #[s, x], argTypes := #[t, t] })
    (e : TypeId) (i : TypeInfo) (h1 : P.underlying t = some (.slice e)) (h2 : P.info? e = some i) (h4 : i.size = 1)
    (G n cap : Nat) (hs : a.eval s = .slice (some ⟨G, 0, none⟩) n cap) (ad : Addr) (c : Nat) (v : Value) (hx : a.eval x = .slice (some ad) 1 c) (hc : w.cell? ad = some v) (hv : v.oneCell' = true)
    (hroom : n + 1 ≤ cap) (cs : Array Value) (tt : TypeId) (hG : w.heap[G]? = some (.cells cs tt (0, 0))) (hn : n < cs.size)
    (hK : K (a.put o.dst (.slice (some ⟨G, 0, none⟩) (n + 1) cap)) (w.setCell ⟨G, n, none⟩ v)) :
    if Region.wanted o (yielded ops a.tmps) = true then Oper.wp P o a w K Q else E := by
  rw [if_pos hw]
  have hcell := blk_cell hG n
  have hfz := blk_frozen hG n
  have hrun := run_append_room_cells (P := P) (w := w) t o.type e i h1 h2 G 0 n cap ad 1 c [v] (by simp [h4]) (fun j u hj => by
    cases j with
    | zero => simp only [List.getElem?_cons_zero, Option.some.injEq] at hj; subst hj; rw [show ad.add 0 = ad by simp [Addr.add]]; exact hc
    | succ j => simp at hj) (fun u hu => by rw [List.mem_singleton.1 hu]; exact hv) hroom (fun j hj => by
      obtain rfl : j = 0 := by simpa using hj
      rw [h4, show 0 + n * 1 + 0 = n by omega, hcell]
      simp [hn]) (fun j hj => by
      obtain rfl : j = 0 := by simpa using hj
      rw [h4, show 0 + n * 1 + 0 = n by omega]
      exact hfz)
  rw [h4, show 0 + n * 1 = n by omega] at hrun
  unfold Oper.wp
  simp [execOp, hop, resolve, invoke, builtin, hs, hx, hrun, Result.andThen]
  exact hK
theorem new_cell (w : World) (x : Value) (t : TypeId) : (w.alloc (.cells #[x] t)).cell? ⟨w.heap.size, 0, none⟩ = some x := by
  rw [blk_cell (blk_new w _)]
  rfl
theorem new_cell_drew (w : World) (x : Value) (t : TypeId) : ((w.alloc (.cells #[x] t)).drew).cell? ⟨w.heap.size, 0, none⟩ = some x := by
  rw [blk_cell (blk_drew (blk_new w _))]
  rfl
theorem pre_step {n G tt i : Nat} {now : List Int} {cs : Array Value} {wr W1 : World} (h : wr.heap[G]? = some (.cells cs tt (0, 0)) ∧ cs.size = n ∧ (∀ j, j < now.length → cs[j]? = some (.int .i64 (now.getD j 0)))) (hl : now.length < n) (h1 : W1.heap[G]? = some (.cells cs tt (0, 0))) :
    ∃ cs2, (W1.setCell ⟨G, now.length, none⟩ (.int .i64 (i : Int))).heap[G]? = some (.cells cs2 tt (0, 0)) ∧ cs2.size = n ∧ ∀ j, j < now.length + 1 → cs2[j]? = some (.int .i64 ((now ++ [(i : Int)]).getD j 0)) := by
  refine ⟨_, blk_set h1 _ _, by simpa using h.2.1, fun j hj => ?_⟩
  rw [Array.getElem?_setIfInBounds]
  by_cases e : now.length = j
  · subst e
    rw [if_pos rfl, if_pos (by rw [h.2.1]; exact hl)]
    simp [List.getD_eq_getElem?_getD]
  · rw [if_neg e, h.2.2 j (by omega)]
    simp [List.getD_eq_getElem?_getD, List.getElem?_append_left (show j < now.length by omega)]
theorem pre_step_drew {n G tt i : Nat} {now : List Int} {cs : Array Value} {wr W1 : World} (h : wr.heap[G]? = some (.cells cs tt (0, 0)) ∧ cs.size = n ∧ (∀ j, j < now.length → cs[j]? = some (.int .i64 (now.getD j 0)))) (hl : now.length < n) (h1 : W1.heap[G]? = some (.cells cs tt (0, 0))) :
    ∃ cs2, ((W1.setCell ⟨G, now.length, none⟩ (.int .i64 (i : Int))).drew).heap[G]? = some (.cells cs2 tt (0, 0)) ∧ cs2.size = n ∧ ∀ j, j < now.length + 1 → cs2[j]? = some (.int .i64 ((now ++ [(i : Int)]).getD j 0)) := by
  obtain ⟨cs2, h2, h3, h4⟩ := pre_step (i := i) h hl h1
  exact ⟨cs2, blk_drew h2, h3, h4⟩
theorem make_cap (n : Nat) (hn : n ≤ 1000000) (W : World) : (Instr.makeSlice 30 (.int .i64 0) (.int .i64 (n : Int))).run Try.prog W = .ok (.slice (some ⟨W.heap.size, 0, none⟩) 0 n) (W.alloc (.cells (madeCells #[.int .i64 0] n) 2)) := by
  have h := infoI64
  cases hi : Try.prog.info? 2 with
  | none => rw [hi] at h; cases h
  | some i =>
    rw [hi] at h
    simp only [Option.map_some, Option.some.injEq, Prod.mk.injEq] at h
    obtain ⟨h1, h2, h3⟩ := h
    have := run_make (P := Try.prog) W 30 2 i (.int .i64 0) Try.underlying30 hi h1 .i64 .i64 0 (n : Int) (by omega) (by omega) (by rw [h3]; omega) (by omega)
    rw [h2, Int.toNat_natCast, Nat.mul_one] at this
    exact this
theorem four_new (w : World) (A B C D : Obj) : ((((w.alloc A).alloc B).alloc C).alloc D).heap[w.heap.size]? = some A ∧ ((((w.alloc A).alloc B).alloc C).alloc D).heap[w.heap.size + 1]? = some B ∧
    ((((w.alloc A).alloc B).alloc C).alloc D).heap[w.heap.size + 1 + 1]? = some C ∧ ((((w.alloc A).alloc B).alloc C).alloc D).heap[w.heap.size + 1 + 1 + 1]? = some D := by
  have s1 : (w.alloc A).heap.size = w.heap.size + 1 := by simp
  have s2 : ((w.alloc A).alloc B).heap.size = w.heap.size + 1 + 1 := by simp
  have s3 : (((w.alloc A).alloc B).alloc C).heap.size = w.heap.size + 1 + 1 + 1 := by simp
  have h1 := blk_new (w.alloc A) B
  have h2 := blk_new ((w.alloc A).alloc B) C
  have h3 := blk_new (((w.alloc A).alloc B).alloc C) D
  rw [s1] at h1
  rw [s2] at h2
  rw [s3] at h3
  exact ⟨blk_alloc (blk_alloc (blk_alloc (blk_new w A) B) C) D, blk_alloc (blk_alloc h1 C) D, blk_alloc h2 D, h3⟩

/-- A function value that is called for partings: what it does to a state, and what it leaves alone: blocks from B0 on. -/
structure Cp (σ : Type) (n B0 : Nat) (D : Nat) (caps : Array Value) (st : σ → List Int → Int → σ) (Inv : Nat → σ → World → Prop) : Prop where
  enters : ∀ (args : Array Value) (w : World), (callFunc D args).run Try.prog w = .ok (.enter D args) w
  stays : ∀ G s W W', B0 ≤ G → Inv G s W → Only (· = G) W W' → Inv G s W'
  called : ∀ G s W v o (m : Nat), B0 ≤ G → G < W.heap.size → Inv G s W → Kd.R (Kd.int .i64) 2 W (G + 1) (fun _ => True) v o → o.length = n → (∀ x ∈ o, 0 ≤ x ∧ x < n) → m ≤ n →
    Calls Try.prog D (#[v, .int .i64 m] ++ caps) W fun e W' => e = .returned (.tuple #[]) ∧ Inv G (st s o m) W' ∧ Only (· < B0) W W'
/-- The variables of partings in memory. -/
structure PBox (n D : Nat) (caps : Array Value) (G p : Nat) (W : World) : Prop where
  bn : W.heap[p]? = some (.cells #[.int .i64 n] 3 (0, 0))
  bd : W.heap[p + 1]? = some (.cells #[.func (.func D) #[] caps] 86 (0, 0))
  bg : W.heap[p + 2]? = some (.cells #[.func (.func 113) #[] #[.pointer (some ⟨p, 0, none⟩), .pointer (some ⟨p + 1, 0, none⟩), .pointer (some ⟨p + 2, 0, none⟩)]] 86 (0, 0))
  pG : p + 2 < G
theorem PBox.only {n D G p B0 : Nat} {caps : Array Value} {W W' : World} (h : PBox n D caps G p W) (k : Only (fun b => b = G ∨ b < B0) W W') (hp : B0 ≤ p) : PBox n D caps G p W' :=
  ⟨k.blk h.bn (by have := h.pG; omega), k.blk h.bd (by have := h.pG; omega), k.blk h.bg (by have := h.pG; omega), h.pG⟩
set_option maxHeartbeats 4000000 in
set_option maxRecDepth 100000 in
theorem partings1_zero {σ : Type} {n B0 D : Nat} {caps : Array Value} {st : σ → List Int → Int → σ} {Inv : Nat → σ → World → Prop} (C : Cp σ n B0 D caps st Inv) (hn : n ≤ 1000) (G p : Nat) (hp : B0 ≤ p) (now : List Int) (many : Nat) (hm : many ≤ n) (s : σ) (W : World)
    (hl : now.length = n) (hin : ∀ x ∈ now, 0 ≤ x ∧ x < n) (hb : PBox n D caps G p W) (cs : Array Value) (hG : W.heap[G]? = some (.cells cs 2 (0, 0))) (hcs : ∀ j, j < now.length → cs[j]? = some (.int .i64 (now.getD j 0))) (hI : Inv G s W) :
    Calls Try.prog 113 #[.slice (some ⟨G, 0, none⟩) n n, .int .i64 many, .pointer (some ⟨p, 0, none⟩), .pointer (some ⟨p + 1, 0, none⟩), .pointer (some ⟨p + 2, 0, none⟩)] W fun e W' => e = .returned (.tuple #[]) ∧ Inv G (st s now many) W' ∧ Only (· < B0) W W' := by
  have hbn := blk_cell hb.bn 0
  have hbd := blk_cell hb.bd 0
  have hcl : Aside0 (∀ W1, Below W.heap.size W W1 → Calls Try.prog 90 #[.slice (some ⟨G, 0, none⟩) n n] W1 fun e w' => ∃ v0_ : Value, e = .returned v0_ ∧ Kd.R (Kd.int .i64) 2 w' W1.heap.size (fun _ => True) v0_ now ∧ Below W1.heap.size W1 w') := ⟨fun W1 hb1 => by
    have hC : Kd.C (Kd.int .i64) W (some ⟨G, 0, none⟩) now.length now := Kd.C_of_reads (d := (0 : Int)) (h1 := fun _ => rfl) ⟨rfl, by omega, fun _ => ⟨_, rfl, fun j hj => by rw [add_plain, blk_cell hG]; exact hcs j hj⟩⟩
    have := slices_Clone_int64_int64.calls (some ⟨G, 0, none⟩) n now now W1 (Kd.C_below hC hb1) (by omega) (by unfold slices_Clone_int64_int64.f; rw [if_pos (by omega)])
    rw [hl] at this
    exact this⟩
  have hGl : G < W.heap.size := blk_lt hG
  have hB : B0 ≤ G := by have := hb.pG; omega
  have hcb : Aside0 (∀ W1 w1 v, Below W.heap.size W W1 → Below W1.heap.size W1 w1 → Kd.R (Kd.int .i64) 2 w1 W1.heap.size (fun _ => True) v now → Calls Try.prog D (#[v, .int .i64 many] ++ caps) w1 fun e W' => e = .returned (.tuple #[]) ∧ Inv G (st s now many) W' ∧ Only (· < B0) w1 W') := ⟨fun W1 w1 v h1 h2 hv =>
    C.called G s w1 v now many hB (Nat.lt_of_lt_of_le hGl (Nat.le_trans h1.size h2.size)) (C.stays G s W w1 hB hI ((Only.of_below h1).trans (Only.of_below h2))) (Kd.R_lower hv (Nat.le_trans (Nat.succ_le_of_lt hGl) h1.size)) hl hin hm⟩
  have HB := Aside0.mk (Below.refl W.heap.size W)
  have hent := C.enters
  clear hl hI hin hGl hB
  go_enter Try.func113, Try.ntmps113
  go_wp2
  go_region_with (first | (go_at_call 90; refine (hcl.out _ ?_).mono ?_; (exact below_drew HB.out); rintro e w1 ⟨v, rfl, hv, hb1⟩; have hbd1 : w1.cell? ⟨p + 1, 0, none⟩ = some (.func (.func D) #[] caps) := (hb1.cell (World.block_lt_of_cell? _ _ hbd)).trans hbd; have HV := Aside0.mk hv; have HB1 := Aside0.mk hb1; clear hv hb1) | (refine (hcb.out _ _ _ (below_drew HB.out) HB1.out HV.out).mono ?_; rintro e w2 ⟨rfl, hI2, hO2⟩; have HI2 := Aside0.mk hI2; have HO2 := Aside0.mk hO2; clear hI2 hO2))
  all_goals go_wp2
  all_goals exact bodyPost_ret (v := .tuple #[]) (by simp [results, Try.results113, go_sem]) rfl ⟨rfl, HI2.out, ((Only.refl _ W).drew.trans (Only.of_below HB1.out)).trans HO2.out⟩
/-- What partings1 does for a parting that has been begun. -/
def PPost {σ : Type} (n B0 : Nat) (st : σ → List Int → Int → σ) (Inv : Nat → σ → World → Prop) (G : Nat) (now : List Int) (qs : List (List Int × Int)) (s : σ) (W : World) (e : Ending) (W' : World) : Prop :=
  e = .returned (.tuple #[]) ∧ Inv G (runP st s qs) W' ∧ Only (fun b => b = G ∨ b < B0) W W' ∧ ∃ cs', W'.heap[G]? = some (.cells cs' 2 (0, 0)) ∧ cs'.size = n ∧ (∀ j, j < now.length → cs'[j]? = some (.int .i64 (now.getD j 0)))
set_option maxHeartbeats 8000000 in
set_option maxRecDepth 100000 in
theorem partings1_calls {σ : Type} {n B0 D : Nat} {caps : Array Value} {st : σ → List Int → Int → σ} {Inv : Nat → σ → World → Prop} (C : Cp σ n B0 D caps st Inv) (hn : n ≤ 1000) (G p : Nat) (hp : B0 ≤ p) : ∀ (d : Nat) (now : List Int) (many : Nat) (s : σ) (W : World) (cs : Array Value),
    now.length + d = n → many ≤ now.length → (∀ x ∈ now, 0 ≤ x ∧ x < n) → PBox n D caps G p W → W.heap[G]? = some (.cells cs 2 (0, 0)) → cs.size = n → (∀ j, j < now.length → cs[j]? = some (.int .i64 (now.getD j 0))) → Inv G s W →
    Calls Try.prog 113 #[.slice (some ⟨G, 0, none⟩) now.length n, .int .i64 many, .pointer (some ⟨p, 0, none⟩), .pointer (some ⟨p + 1, 0, none⟩), .pointer (some ⟨p + 2, 0, none⟩)] W (PPost n B0 st Inv G now (parts d now many) s W) := by
  intro d
  induction d with
  | zero =>
    intro now many s W cs hl hm hin hb hG hsz hcs hI
    have hl' : now.length = n := by omega
    have := partings1_zero C hn G p hp now many (by omega) s W hl' hin hb cs hG hcs hI
    rw [hl']
    exact this.mono fun e W' ⟨h1, h2, h3⟩ => ⟨h1, h2, h3.mono (fun _ h => .inr h), cs, h3.blk hG (by have := hb.pG; omega), hsz, hcs⟩
  | succ d ih =>
    intro now many s W cs hl hm hin hb hG hsz hcs hI
    have HIH := Aside0.mk ih
    clear ih
    have hbn := blk_cell hb.bn 0
    have hlen : decide ((now.length : Int) = (n : Int)) = false := decide_eq_false (by omega)
    have hlen' : ((now.length : Int) == (n : Int)) = false := beq_eq_false_iff_ne.mpr (by omega)
    have hm1 : wrap64 ((many : Int) + 1) = (many : Int) + 1 := w64_in (by omega) (by omega)
    have HL := Aside0.mk (And.intro hl (And.intro hm hin))
    have HP : Aside0 (PBox n D caps G p W ∧ Inv G s W ∧ Only (fun b => b = G ∨ b < B0) W W ∧ ∃ cs', W.heap[G]? = some (.cells cs' 2 (0, 0)) ∧ cs'.size = n ∧ (∀ j, j < now.length → cs'[j]? = some (.int .i64 (now.getD j 0)))) := ⟨hb, hI, Only.refl _ _, cs, hG, hsz, hcs⟩
    have hC := Aside0.mk C
    clear hl hin hb hG hsz hcs hI C hm
    go_enter Try.func113, Try.ntmps113
    go_wp2
    rw [hm1]
    clear hm1
    go_loopg [19] (many + 1) (fun gk v19 w' => ∃ (i : Nat) (s' : σ), v19 = .int .i64 i ∧ Aside0 (gk + i = many + 1) ∧ Aside0 (runP st s (parts (d + 1) now many) = runP st s' (partRest d now many i)) ∧ Aside0 (PBox n D caps G p w' ∧ Inv G s' w' ∧ Only (fun b => b = G ∨ b < B0) W w' ∧ ∃ cs', w'.heap[G]? = some (.cells cs' 2 (0, 0)) ∧ cs'.size = n ∧ (∀ j, j < now.length → cs'[j]? = some (.int .i64 (now.getD j 0)))))
    case atStart => exact ⟨0, s, rfl, ⟨rfl⟩, ⟨by rw [partRest_zero]⟩, HP⟩
    case round =>
      clear HP
      obtain ⟨i, s', rfl, HK, HR, HP⟩ := hrel
      by_cases c3 : i ≤ many
      · have c3b : decide ((i : Int) < ((many + 1 : Nat) : Int)) = true := decide_eq_true (by omega)
        have c3c : decide ((i : Int) < (many : Int) + 1) = true := decide_eq_true (by omega)
        have c3n : decide (i < many + 1) = true := decide_eq_true (by omega)
        have hx : wrap64 ((i : Int) + 1) = (i : Int) + 1 := by have := HL.out.1; have := HL.out.2.1; exact w64_in (by omega) (by omega)
        have HB := Aside0.mk (Below.refl wr.heap.size wr)
        have hbg := blk_cell HP.out.1.bg 0
        obtain ⟨ii, hii, hiz⟩ : ∃ ii, Try.prog.info? 2 = some ii ∧ ii.size = 1 := ⟨_, rfl, rfl⟩
        have HII := Aside0.mk hii
        have HIZ := Aside0.mk hiz
        obtain ⟨cs1, hcs1⟩ := HP.out.2.2.2
        have HCS := Aside0.mk hcs1
        have hnG : p + 2 ≠ G := by have := HP.out.1.pG; omega
        have hbg2 : ∀ (k : Nat) (o : Obj), ((wr.drewN k).alloc o).cell? ⟨p + 2, 0, none⟩ = some (.func (.func 113) #[] #[.pointer (some ⟨p, 0, none⟩), .pointer (some ⟨p + 1, 0, none⟩), .pointer (some ⟨p + 2, 0, none⟩)]) := fun k o => blk_cell (blk_alloc (blk_drewN HP.out.1.bg k) o) 0
        have hbg3 : ∀ (k : Nat) (o : Obj) (j : Nat) (v : Value), (((wr.drewN k).alloc o).setCell ⟨G, j, none⟩ v).cell? ⟨p + 2, 0, none⟩ = some (.func (.func 113) #[] #[.pointer (some ⟨p, 0, none⟩), .pointer (some ⟨p + 1, 0, none⟩), .pointer (some ⟨p + 2, 0, none⟩)]) := fun k o j v => blk_cell (blk_far (blk_alloc (blk_drewN HP.out.1.bg k) o) hnG v) 0
        have hbg4 : ∀ (o : Obj), (wr.alloc o).cell? ⟨p + 2, 0, none⟩ = some (.func (.func 113) #[] #[.pointer (some ⟨p, 0, none⟩), .pointer (some ⟨p + 1, 0, none⟩), .pointer (some ⟨p + 2, 0, none⟩)]) := fun o => blk_cell (blk_alloc HP.out.1.bg o) 0
        have hbg5 : ∀ (o : Obj) (j : Nat) (v : Value), ((wr.alloc o).setCell ⟨G, j, none⟩ v).cell? ⟨p + 2, 0, none⟩ = some (.func (.func 113) #[] #[.pointer (some ⟨p, 0, none⟩), .pointer (some ⟨p + 1, 0, none⟩), .pointer (some ⟨p + 2, 0, none⟩)]) := fun o j v => blk_cell (blk_far (blk_alloc HP.out.1.bg o) hnG v) 0
        have hroom : now.length + 1 ≤ n := by have := HL.out.1; omega
        have hcl : ∀ (o : Obj), (wr.alloc o).cell? ⟨G, now.length, none⟩ = some (cs1.getD now.length undef) := fun o => by
          have : now.length < cs1.size := by rw [HCS.out.2.1]; omega
          rw [blk_cell (blk_alloc HCS.out.1 o)]
          simp [Array.getD, this]
        have hfz : ∀ (o : Obj), (wr.alloc o).frozen? ⟨G, now.length, none⟩ = false := fun o => blk_frozen (blk_alloc HCS.out.1 o) _
        have hwi : IntKind.i64.wrap ((i : Int) + 1) = (i : Int) + 1 := by
          have := HL.out.1; have := HL.out.2.1
          exact wi64 (by omega) (by omega)
        obtain ⟨M, hM⟩ : ∃ M : Nat, M = max many (i + 1) := ⟨_, rfl⟩
        have hite : (if (many : Int) < (i : Int) + 1 then (i : Int) + 1 else (many : Int)) = (M : Int) := by
          rw [hM]
          split <;> omega
        have HM := Aside0.mk hM
        have HREC : Aside0 (∀ W1, Only (· = G) wr W1 → (∃ cs2, W1.heap[G]? = some (.cells cs2 2 (0, 0)) ∧ cs2.size = n ∧ ∀ j, j < now.length + 1 → cs2[j]? = some (.int .i64 ((now ++ [(i : Int)]).getD j 0))) → Calls Try.prog 113 #[.slice (some ⟨G, 0, none⟩) (now.length + 1) n, .int .i64 M, .pointer (some ⟨p, 0, none⟩), .pointer (some ⟨p + 1, 0, none⟩), .pointer (some ⟨p + 2, 0, none⟩)] W1 fun e W2 => e = .returned (.tuple #[]) ∧ PBox n D caps G p W2 ∧ Inv G (runP st s' (parts d (now ++ [(i : Int)]) M)) W2 ∧ Only (fun b => b = G ∨ b < B0) W W2 ∧ ∃ cs', W2.heap[G]? = some (.cells cs' 2 (0, 0)) ∧ cs'.size = n ∧ (∀ j, j < now.length → cs'[j]? = some (.int .i64 (now.getD j 0)))) := ⟨fun W1 h1 ⟨cs2, h2, h3, h4⟩ => by
          have hl := HL.out.1
          have := HIH.out (now ++ [(i : Int)]) M s' W1 cs2 (by simp; omega) (by have := HL.out.2.1; simp; omega) (fun x hx => by
            rcases List.mem_append.1 hx with hx | hx
            · exact HL.out.2.2 x hx
            · have := HL.out.2.1; rw [List.mem_singleton.1 hx]; omega) (HP.out.1.only (h1.mono (fun _ h => .inl h)) hp) h2 h3 (by simpa using h4) (hC.out.stays G s' wr W1 (by have := HP.out.1.pG; omega) HP.out.2.1 h1)
          rw [List.length_append] at this
          refine this.mono fun e W2 ⟨g1, g2, g3, cs3, g4, g5, g6⟩ => ?_
          have g7 := (h1.mono (S' := fun b => b = G ∨ b < B0) (fun _ h => .inl h)).trans g3
          refine ⟨g1, HP.out.1.only g7 hp, g2, HP.out.2.2.1.trans g7, cs3, g4, g5, fun j hj => ?_⟩
          rw [g6 j (by simp; omega)]
          simp [List.getD_eq_getElem?_getD, List.getElem?_append_left hj]⟩
        have HREST : Aside0 (runP st s (parts (d + 1) now many) = runP st (runP st s' (parts d (now ++ [(i : Int)]) M)) (partRest d now many (i + 1))) := ⟨by
          rw [HR.out, partRest_step c3, runP_append, hM]⟩
        have HIN : Aside0 (i ≤ many) := ⟨c3⟩
        clear c3 hii hiz hcs1 hnG hM
        go_wp2
        go_region_law (first | (go_simp; go_at_call 113; refine (HREC.out _ ?_ ?_).mono ?_; (exact (Only.set (S := (· = G)) ((Only.refl _ wr).alloc _) rfl _ _).drew); (exact pre_step_drew HCS.out (by have := HL.out.1; omega) (blk_alloc HCS.out.1 _)); (rintro e w2 ⟨rfl, hp2⟩; have HP2 := Aside0.mk hp2; clear hp2)))
        all_goals
          go_wp2
          go_roundg (gk - 1)
          case measure => have := HK.out; have := HIN.out; omega
          case rel => exact ⟨i + 1, _, by first | rfl | (simp; done), ⟨by have := HK.out; have := HIN.out; omega⟩, HREST, HP2⟩
      · have c3b : decide ((i : Int) < (many : Int) + 1) = false := decide_eq_false (by omega)
        have c3c : decide ((i : Int) < ((many + 1 : Nat) : Int)) = false := decide_eq_false (by omega)
        have c3n : decide (i < many + 1) = false := decide_eq_false (by omega)
        have HE : Aside0 (runP st s (parts (d + 1) now many) = s') := ⟨by rw [HR.out, partRest_end (by omega)]; rfl⟩
        clear c3
        go_wp2
        go_end0
        exact ⟨rfl, by rw [HE.out]; exact HP.out.2.1, HP.out.2.2.1, HP.out.2.2.2⟩
set_option maxHeartbeats 4000000 in
set_option maxRecDepth 100000 in
theorem impl_partings.calls {σ : Type} {n D : Nat} {caps : Array Value} {st : σ → List Int → Int → σ} {Inv : Nat → σ → World → Prop} (w : World) (C : Cp σ n w.heap.size D caps st Inv) (hn : n ≤ 1000) (s : σ)
    (hI : ∀ G W, w.heap.size ≤ G → Below w.heap.size w W → Inv G s W) :
    Calls Try.prog 101 #[.int .i64 n, .func (.func D) #[] caps] w fun e w' => e = .returned (.tuple #[]) ∧ ∃ G, w.heap.size ≤ G ∧ Inv G (runP st s (parts n [] 0)) w' := by
  have hmf : ∀ (fn : Fn) (first cap : Array Value) (w : World), (Instr.makeFunc fn first cap).run Try.prog w = .ok (.func fn first cap) w := fun _ _ _ _ => rfl
  have hmk := make_cap n (by omega)
  have HGO : Aside0 (Calls Try.prog 113 #[.slice (some ⟨w.heap.size + 1 + 1 + 1, 0, none⟩) 0 n, .int .i64 0, .pointer (some ⟨w.heap.size, 0, none⟩), .pointer (some ⟨w.heap.size + 1, 0, none⟩), .pointer (some ⟨w.heap.size + 1 + 1, 0, none⟩)]
      (((((w.alloc (.cells #[.int .i64 n] 3)).alloc (.cells #[.func (.func D) #[] caps] 86)).alloc (.cells #[.func (.func 113) #[] #[.pointer (some ⟨w.heap.size, 0, none⟩), .pointer (some ⟨w.heap.size + 1, 0, none⟩), .pointer (some ⟨w.heap.size + 1 + 1, 0, none⟩)]] 86)).alloc (.cells (madeCells #[.int .i64 0] n) 2)).drew)
      fun e w' => e = .returned (.tuple #[]) ∧ Inv (w.heap.size + 1 + 1 + 1) (runP st s (parts n [] 0)) w') := ⟨by
    have hf := four_new w (.cells #[.int .i64 n] 3) (.cells #[.func (.func D) #[] caps] 86) (.cells #[.func (.func 113) #[] #[.pointer (some ⟨w.heap.size, 0, none⟩), .pointer (some ⟨w.heap.size + 1, 0, none⟩), .pointer (some ⟨w.heap.size + 1 + 1, 0, none⟩)]] 86) (.cells (madeCells #[.int .i64 0] n) 2)
    have hb : Below w.heap.size w ((((w.alloc (.cells #[.int .i64 n] 3)).alloc (.cells #[.func (.func D) #[] caps] 86)).alloc (.cells #[.func (.func 113) #[] #[.pointer (some ⟨w.heap.size, 0, none⟩), .pointer (some ⟨w.heap.size + 1, 0, none⟩), .pointer (some ⟨w.heap.size + 1 + 1, 0, none⟩)]] 86)).alloc (.cells (madeCells #[.int .i64 0] n) 2)) := below_alloc (below_alloc (below_alloc (below_alloc (Below.refl _ _) _) _) _) _
    have := partings1_calls C hn (w.heap.size + 1 + 1 + 1) w.heap.size (Nat.le_refl _) n [] 0 s _ _ (by simp) (by simp) (by simp) ⟨blk_drew hf.1, blk_drew hf.2.1, blk_drew hf.2.2.1, by omega⟩ (blk_drew hf.2.2.2) (size_madeCells _ _) (by simp) (hI _ _ (by omega) (below_drew hb))
    exact this.mono fun e w' h => ⟨h.1, h.2.1⟩⟩
  clear C hI
  go_enter Try.func101, Try.ntmps101
  go_wp2
  go_region_law (first | (go_simp; go_at_call 113; refine HGO.out.mono ?_; (rintro e w2 ⟨rfl, hp2⟩; have HP2 := Aside0.mk hp2; clear hp2)))
  all_goals go_wp2
  all_goals (go_end0; exact ⟨rfl, w.heap.size + 1 + 1 + 1, by omega, HP2.out⟩)

/-! ### impl_areTrips: function 109: this session's own text -/
def tripsGo (seats : Int) : List S90 → List Int → List Int → Bool
  | x :: xs, n :: ns, sums => if n < 0 then false else if n ≥ 6 then false else
      if seats < wrap64 (rd sums n + wrap64 x.f1) then false else tripsGo seats xs ns (sums.set n.toNat (wrap64 (rd sums n + wrap64 x.f1)))
  | _, _, _ => true
def impl_areTrips.f (a0 : Int) (l1 : List S90) (l2 : List Int) : Option Bool := some (if l2.length = l1.length then tripsGo a0 l1 l2 [0, 0, 0, 0, 0, 0] else false)
set_option maxHeartbeats 2000000 in
set_option maxRecDepth 100000 in
theorem impl_areTrips.calls (a0 : Int) (A1 : Option Addr) (c1 : Nat) (l1 : List (S90)) (A2 : Option Addr) (c2 : Nat) (l2 : List (Int)) (r : Bool) (w : World) (hr1 : Kd.C k90 w A1 l1.length l1) (hc1 : l1.length ≤ c1) (hr2 : Kd.C (Kd.int .i64) w A2 l2.length l2) (hc2 : l2.length ≤ c2) (h : impl_areTrips.f a0 l1 l2 = some r) :
    Calls Try.prog 109 #[.int .i64 a0, .slice A1 l1.length c1, .slice A2 l2.length c2] w fun e w' => e = .returned (.bool r) ∧ Below w.heap.size w w' := by
  have hu := Try.underlying90
  have HR1 := Aside0.mk hr1
  have HR2 := Aside0.mk hr2
  have HC1 := Aside0.mk hc1
  have HC2 := Aside0.mk hc2
  clear hr1 hr2 hc1 hc2
  by_cases hlen : (l2.length : Int) = (l1.length : Int)
  · have H0 : Aside0 (tripsGo a0 l1 l2 [0, 0, 0, 0, 0, 0] = r) := ⟨by
      have h' := Option.some.inj h
      rw [if_pos (by omega)] at h'
      exact h'⟩
    clear h
    have HL := Aside0.mk hlen
    have hlb : ((l2.length : Int) == (l1.length : Int)) = true := beq_iff_eq.mpr hlen
    have hlb' : ((l2.length : Int) != (l1.length : Int)) = false := bne_eq_false_iff_eq.mpr hlen
    clear hlen
    have HB := Aside0.mk (Below.refl w.heap.size w)
    go_enter Try.func109, Try.ntmps109
    go_wp2
    go_loopg [18] l2.length (fun gk v18 w' => ∃ (x : Int) (sums : List Int), v18 = .int .i64 x ∧ Aside0 (0 ≤ x ∧ x.toNat + gk = l2.length ∧ sums.length = 6 ∧ tripsGo a0 (l1.drop x.toNat) (l2.drop x.toNat) sums = r) ∧ Aside0 (w'.heap[w.heap.size]? = some (.cells (sums.map (Value.int .i64)).toArray 124 (0, 0))) ∧ Aside0 (Below w.heap.size w w'))
    case atStart =>
      refine ⟨0, [0, 0, 0, 0, 0, 0], rfl, ⟨by omega, by simp, rfl, H0.out⟩, ⟨?_⟩, ⟨?_⟩⟩
      · exact blk_new _ _
      · exact below_alloc HB.out _
    case round =>
      clear HB H0
      obtain ⟨x, sums, rfl, HI, HK, HB⟩ := hrel
      have p0 : 0 ≤ x := HI.out.1
      by_cases c3 : x < (l2.length : Int)
      · have p1 : x < (l1.length : Int) := by have := HL.out; omega
        have HD : Aside0 (tripsGo a0 (rd_T90 l1 x :: l1.drop (x + 1).toNat) (rd l2 x :: l2.drop (x + 1).toNat) sums = r) := ⟨by
          have := HI.out.2.2.2
          rw [drop_rd z90 p0 p1, drop_rd 0 p0 c3] at this
          exact this⟩
        have HX : Aside0 (wrap64 (x + 1) = x + 1 ∧ 0 ≤ x + 1 ∧ (x + 1).toNat = x.toNat + 1) := ⟨by have := HR2.out.2.1; exact w64_in (by omega) (by omega), by omega, by omega⟩
        obtain ⟨ad1, e1, hx1_0, hx1_1, hx1_2⟩ := at_T90 HR1.out x p0 p1
        cases e1
        obtain ⟨ad2, e2, hx2_0⟩ := Kd.at_int HR2.out x p0 c3
        cases e2
        replace hx1_2 := (HB.out.cell (World.block_lt_of_cell? w _ hx1_2)).trans hx1_2
        replace hx2_0 := (HB.out.cell (World.block_lt_of_cell? w _ hx2_0)).trans hx2_0
        clear hx1_0 hx1_1
        have c3b : decide (x < (l2.length : Int)) = true := decide_eq_true c3
        have c3c : decide (x < (l1.length : Int)) = true := decide_eq_true p1
        have p0b : decide (0 ≤ x) = true := decide_eq_true p0
        by_cases c4 : rd l2 x < 0
        · have c4b : decide (rd l2 x < 0) = true := decide_eq_true c4
          have HE : Aside0 (r = false) := ⟨by have := HD.out; rw [tripsGo, if_pos c4] at this; exact this.symm⟩
          clear c4 HD
          go_wp2
          obtain rfl := HE.out
          go_ret
          exact ⟨by first | rfl | (simp; done), HB.out⟩
        · by_cases c5 : rd l2 x ≥ 6
          · have c4b : decide (rd l2 x < 0) = false := decide_eq_false c4
            have c5b : decide (rd l2 x ≥ 6) = true := decide_eq_true c5
            have HE : Aside0 (r = false) := ⟨by have := HD.out; rw [tripsGo, if_neg c4, if_pos c5] at this; exact this.symm⟩
            clear c4 c5 HD
            go_wp2
            obtain rfl := HE.out
            go_ret
            exact ⟨by first | rfl | (simp; done), HB.out⟩
          · have q0 : 0 ≤ rd l2 x := by omega
            have q1 : rd l2 x < 6 := by omega
            have c4b : decide (rd l2 x < 0) = false := decide_eq_false c4
            have c5b : decide (rd l2 x ≥ 6) = false := decide_eq_false c5
            have hs : wr.cell? ⟨w.heap.size, (rd l2 x).toNat, none⟩ = some (.int .i64 (rd sums (rd l2 x))) := cell_of_ints HK.out (by have := HI.out.2.2.1; omega)
            have hfz := blk_frozen HK.out (rd l2 x).toNat
            by_cases c6 : a0 < wrap64 (rd sums (rd l2 x) + wrap64 (rd_T90 l1 x).f1)
            · have c6b := decide_eq_true c6
              have HE : Aside0 (r = false) := ⟨by have := HD.out; rw [tripsGo, if_neg c4, if_neg c5, if_pos c6] at this; exact this.symm⟩
              clear c4 c5 c6 HD
              go_wp2
              go_region
              go_wp2
              obtain rfl := HE.out
              go_ret
              exact ⟨by first | rfl | (simp; done), below_drew (below_set HB.out (Nat.le_refl _))⟩
            · have c6b := decide_eq_false c6
              have HE : Aside0 (tripsGo a0 (l1.drop (x + 1).toNat) (l2.drop (x + 1).toNat) (sums.set (rd l2 x).toNat (wrap64 (rd sums (rd l2 x) + wrap64 (rd_T90 l1 x).f1))) = r) := ⟨by have := HD.out; rw [tripsGo, if_neg c4, if_neg c5, if_neg c6] at this; exact this⟩
              clear c4 c5 c6 HD
              go_wp2
              go_region
              go_wp2
              go_roundg (gk - 1)
              case measure => have := HI.out.2.1; omega
              case rel =>
                refine ⟨x + 1, sums.set (rd l2 x).toNat (wrap64 (rd sums (rd l2 x) + wrap64 (rd_T90 l1 x).f1)), by first | rfl | rw [HX.out.1], ⟨HX.out.2.1, ?_, by have := HI.out.2.2.1; simpa using this, HE.out⟩, ⟨ints_put HK.out _ _⟩, ⟨below_drew (below_set HB.out (Nat.le_refl _))⟩⟩
                have := HX.out.2.2
                have := HI.out.2.1
                omega
      · have c3b : decide (x < (l2.length : Int)) = false := decide_eq_false c3
        have HE : Aside0 (r = true) := ⟨by
          have := HI.out.2.2.2
          rw [List.drop_eq_nil_of_le (show l2.length ≤ x.toNat by omega)] at this
          cases hd : l1.drop x.toNat <;> rw [hd] at this <;> exact this.symm⟩
        clear c3
        go_wp2
        obtain rfl := HE.out
        go_ret
        exact ⟨by first | rfl | (simp; done), HB.out⟩
  · have HE : Aside0 (r = false) := ⟨by
      have h' := Option.some.inj h
      rw [if_neg (by omega)] at h'
      exact h'.symm⟩
    clear h
    have hlb : ((l2.length : Int) == (l1.length : Int)) = false := beq_eq_false_iff_ne.mpr hlen
    have hlb' : ((l2.length : Int) != (l1.length : Int)) = true := bne_iff_ne.mpr hlen
    clear hlen
    go_enter Try.func109, Try.ntmps109
    go_wp2
    obtain rfl := HE.out
    go_ret
    exact ⟨by first | rfl | (simp; done), Below.refl _ _⟩

/-! ### impl_bestTrips: function 74: this session's own text -/
theorem enters_any {P : Program} {f : FuncId} {fn : Func} {c : Code} (hf : P.funcs[f]? = some fn) (hname : (fn.name == "runtime.NumGoroutine") = false) (hb : fn.body = some c) (args : Array Value) (w : World) : (callFunc f args).run P w = .ok (.enter f args) w := by
  have h1 : fn.name ≠ "runtime.NumGoroutine" := by simpa using hname
  simp [callFunc, hf, h1, hb, mark]

/-- A function value that tells what a parting costs. -/
structure Co (w0 : World) (n D : Nat) (caps : Array Value) (cost : List Int → Int → Int) : Prop where
  enters : ∀ (args : Array Value) (w : World), (callFunc D args).run Try.prog w = .ok (.enter D args) w
  called : ∀ W v o (m : Nat), Below w0.heap.size w0 W → (∃ B, Kd.R (Kd.int .i64) 2 W B (fun _ => True) v o) → o.length = n → (∀ x ∈ o, 0 ≤ x ∧ x < n) → m ≤ n →
    Calls Try.prog D (#[v, .int .i64 m] ++ caps) W fun e W' => e = .returned (.int .i64 (cost o m)) ∧ Below W.heap.size W W'
/-- Do the numbers fit into the boats? -/
def areT (s : Int) (l : List S90) (o : List Int) : Bool := if o.length = l.length then tripsGo s l o [0, 0, 0, 0, 0, 0] else false
def bestSt (l : List S90) (seats : Int) (cost : List Int → Int → Int) (s : List Int × Int) (o : List Int) (m : Int) : List Int × Int := if areT seats l o = true then (if s.2 < 0 ∨ cost o m < s.2 then (o, cost o m) else s) else s
def bestRun (l : List S90) (seats : Int) (cost : List Int → Int → Int) : List Int × Int := runP (bestSt l seats cost) ([], -1) (parts l.length [] 0)
/-- The state of the search in memory: the variables of the list, the depth, the function, the least and the best. -/
def BestInv (w0 : World) (A0 : Option Addr) (c0 : Nat) (l0 : List S90) (deep : Int) (D : Nat) (caps : Array Value) (p q : Nat) (G : Nat) (s : List Int × Int) (W : World) : Prop :=
  Below w0.heap.size w0 W ∧ W.heap[p]? = some (.cells #[.int .i64 deep] 2 (0, 0)) ∧ W.heap[p + 1]? = some (.cells #[.slice A0 l0.length c0] 48 (0, 0)) ∧ W.heap[p + 2]? = some (.cells #[.func (.func D) #[] caps] 78 (0, 0)) ∧
    W.heap[q + 1]? = some (.cells #[.int .i64 s.2] 2 (0, 0)) ∧ ∃ v, W.heap[q]? = some (.cells #[v] 30 (0, 0)) ∧ Kd.R (Kd.int .i64) 2 W (G + 1) (fun _ => True) v s.1
set_option maxHeartbeats 4000000 in
set_option maxRecDepth 100000 in
theorem best_cb (w0 : World) (A0 : Option Addr) (c0 : Nat) (l0 : List S90) (deep : Int) (D : Nat) (caps : Array Value) (cost : List Int → Int → Int) (hco : Co w0 l0.length D caps cost) (hr0 : Kd.C k90 w0 A0 l0.length l0) (hc0 : l0.length ≤ c0) (h7 : l0.length ≤ 7) (p q B0 : Nat) (hL : w0.heap.size ≤ p) (hq : p + 2 < q) (hB : q + 1 < B0) :
    Cp (List Int × Int) l0.length B0 108 #[.pointer (some ⟨p, 0, none⟩), .pointer (some ⟨p + 1, 0, none⟩), .pointer (some ⟨p + 2, 0, none⟩), .pointer (some ⟨q + 1, 0, none⟩), .pointer (some ⟨q, 0, none⟩)] (bestSt l0 deep cost) (BestInv w0 A0 c0 l0 deep D caps p q) where
  enters := enters_any Try.func108 (by kernel_rfl) rfl
  stays := by
    intro G s W W' hG ⟨h1, h2, h3, h4, h5, v, h6, h8⟩ hO
    exact ⟨Only.below h1 hO h1.size (fun i hi => by subst hi; omega), hO.blk h2 (fun e => by omega), hO.blk h3 (fun e => by omega), hO.blk h4 (fun e => by omega), hO.blk h5 (fun e => by omega), v, hO.blk h6 (fun e => by omega), own_only h8 hO (fun i hi => by subst hi; omega)⟩
  called := by
    intro G s W v o m hG hGl hI hR ho hin hm
    obtain ⟨h1, h2, h3, h4, h5, vo, h6, h8⟩ := hI
    have hRk := hR
    obtain ⟨A1, c1, rfl, hc1, hr1⟩ := Kd.R_reads hR
    have har : Aside0 (∀ W1, Below W.heap.size W W1 → Calls Try.prog 109 #[.int .i64 deep, .slice A0 l0.length c0, .slice A1 o.length c1] W1 fun e w' => e = .returned (.bool (areT deep l0 o)) ∧ Below W1.heap.size W1 w') := ⟨fun W1 hb =>
      impl_areTrips.calls deep A0 c0 l0 A1 c1 o _ W1 (Kd.C_below (Kd.C_below hr0 h1) hb) hc0 (Kd.C_below hr1 hb) hc1 rfl⟩
    have hof : Aside0 (∀ W1, Below W.heap.size W W1 → Calls Try.prog D (#[.slice A1 o.length c1, .int .i64 m] ++ caps) W1 fun e w' => e = .returned (.int .i64 (cost o m)) ∧ Below W1.heap.size W1 w') := ⟨fun W1 hb =>
      hco.called W1 _ o m (h1.trans (hb.mono h1.size)) ⟨_, Kd.R_below hRk hb⟩ ho hin hm⟩
    have hent := hco.enters
    have hpc := blk_cell h2 0
    have hdc := blk_cell h3 0
    have H4 := Aside0.mk h4
    have H5 := Aside0.mk h5
    have H6 := Aside0.mk h6
    have HW := Aside0.mk (And.intro h1 (And.intro h2 (And.intro h3 (And.intro h4 h5))))
    have HK := Aside0.mk (And.intro hRk (And.intro h8 hG))
    have HB := Aside0.mk (Below.refl W.heap.size W)
    have HN : Aside0 (∀ w3 : World, Below W.heap.size W w3 → BestInv w0 A0 c0 l0 deep D caps p q G s w3 ∧ Only (· < B0) W w3) := ⟨fun w3 hb =>
      ⟨⟨h1.trans (hb.mono h1.size), blk_below h2 hb, blk_below h3 hb, blk_below h4 hb, blk_below h5 hb, vo, blk_below h6 hb, own_only h8 (Only.of_below (S := fun _ => False) hb) (fun i hi => hi.elim)⟩, Only.of_below hb⟩⟩
    clear h1 h2 h3 h4 h5 h6 h8 hR hRk hr1 hc1 hc0 hr0 hin ho hG hGl hco hm
    by_cases d1 : areT deep l0 o = true
    · rw [d1] at har
      by_cases c2 : s.2 < 0 ∨ cost o m < s.2
      · have HST : Aside0 (bestSt l0 deep cost s o m = (o, cost o m)) := ⟨by unfold bestSt; rw [if_pos d1, if_pos c2]⟩
        have c3 : ∃ b3, decide (s.2 < 0) = b3 ∧ (b3 = false → decide (cost o m < s.2) = true) := ⟨_, rfl, fun h => decide_eq_true (by have := of_decide_eq_false h; omega)⟩
        obtain ⟨b3, c3b, c4⟩ := c3
        have HF : Aside0 (∀ w3 : World, Below W.heap.size W w3 → BestInv w0 A0 c0 l0 deep D caps p q G (o, cost o m) ((w3.setCell ⟨q, 0, none⟩ (.slice A1 o.length c1)).setCell ⟨q + 1, 0, none⟩ (.int .i64 (cost o m))) ∧ Only (· < B0) W ((w3.setCell ⟨q, 0, none⟩ (.slice A1 o.length c1)).setCell ⟨q + 1, 0, none⟩ (.int .i64 (cost o m)))) := ⟨fun w3 hb => by
          have hO : Only (· < B0) W ((w3.setCell ⟨q, 0, none⟩ (.slice A1 o.length c1)).setCell ⟨q + 1, 0, none⟩ (.int .i64 (cost o m))) := Only.set (S := (· < B0)) (Only.set (S := (· < B0)) (Only.of_below hb) (show q < B0 by omega) 0 _) (show q + 1 < B0 by omega) 0 _
          have hp : ∀ {g t : Nat} {cs : Array Value}, W.heap[g]? = some (.cells cs t (0, 0)) → g ≠ q → g ≠ q + 1 → ((w3.setCell ⟨q, 0, none⟩ (.slice A1 o.length c1)).setCell ⟨q + 1, 0, none⟩ (.int .i64 (cost o m))).heap[g]? = some (.cells cs t (0, 0)) := fun hg e1 e2 => blk_far (p := ⟨q + 1, 0, none⟩) (blk_far (p := ⟨q, 0, none⟩) (blk_below hg hb) e1 _) e2 _
          exact ⟨⟨((HW.out.1.trans (hb.mono HW.out.1.size)).setCell (show w0.heap.size ≤ q by omega) _).setCell (show w0.heap.size ≤ q + 1 by omega) _, hp HW.out.2.1 (by omega) (by omega), hp HW.out.2.2.1 (by omega) (by omega), hp HW.out.2.2.2.1 (by omega) (by omega), blk_set (blk_far (blk_below H5.out hb) (show q + 1 ≠ q by omega) _) 0 _, _, blk_far (blk_set (blk_below H6.out hb) 0 _) (show q ≠ q + 1 by omega) _, own_only HK.out.1 hO (fun i hi => by have := HK.out.2.2; omega)⟩, hO⟩⟩
        clear d1 c2
        cases b3 with
        | true =>
          clear c4
          go_enter Try.func108, Try.ntmps108
          go_wp2_with (first | (go_at_call 109; refine (har.out _ ?_).mono ?_; (exact HB.out); rintro e w1 ⟨rfl, hb1⟩; have hfc := blk_cell (blk_below H4.out hb1) 0; have HB1 := Aside0.mk hb1; clear hb1) | (refine (hof.out _ HB1.out).mono ?_; rintro e w2 ⟨rfl, hb2⟩; have HB2 := Aside0.mk (HB1.out.trans (hb2.mono HB1.out.size)); clear hb2; have h5b := blk_below H5.out HB2.out; have h5c := blk_cell h5b 0; have h5f := blk_frozen h5b 0; have h6b := blk_below H6.out HB2.out; have h6c := blk_cell h6b 0; have h6f := blk_frozen h6b 0; clear h5b h6b))
          go_end0
          exact ⟨rfl, by rw [HST.out]; exact (HF.out _ HB2.out).1, (HF.out _ HB2.out).2⟩
        | false =>
          have c4b := c4 rfl
          clear c4
          go_enter Try.func108, Try.ntmps108
          go_wp2_with (first | (go_at_call 109; refine (har.out _ ?_).mono ?_; (exact HB.out); rintro e w1 ⟨rfl, hb1⟩; have hfc := blk_cell (blk_below H4.out hb1) 0; have HB1 := Aside0.mk hb1; clear hb1) | (refine (hof.out _ HB1.out).mono ?_; rintro e w2 ⟨rfl, hb2⟩; have HB2 := Aside0.mk (HB1.out.trans (hb2.mono HB1.out.size)); clear hb2; have h5b := blk_below H5.out HB2.out; have h5c := blk_cell h5b 0; have h5f := blk_frozen h5b 0; have h6b := blk_below H6.out HB2.out; have h6c := blk_cell h6b 0; have h6f := blk_frozen h6b 0; clear h5b h6b))
          go_end0
          exact ⟨rfl, by rw [HST.out]; exact (HF.out _ HB2.out).1, (HF.out _ HB2.out).2⟩
      · have HST : Aside0 (bestSt l0 deep cost s o m = s) := ⟨by unfold bestSt; rw [if_pos d1, if_neg c2]⟩
        have c3b : decide (s.2 < 0) = false := decide_eq_false (by omega)
        have c4b : decide (cost o m < s.2) = false := decide_eq_false (by omega)
        clear d1 c2
        go_enter Try.func108, Try.ntmps108
        go_wp2_with (first | (go_at_call 109; refine (har.out _ ?_).mono ?_; (exact HB.out); rintro e w1 ⟨rfl, hb1⟩; have hfc := blk_cell (blk_below H4.out hb1) 0; have HB1 := Aside0.mk hb1; clear hb1) | (refine (hof.out _ HB1.out).mono ?_; rintro e w2 ⟨rfl, hb2⟩; have HB2 := Aside0.mk (HB1.out.trans (hb2.mono HB1.out.size)); clear hb2; have h5b := blk_below H5.out HB2.out; have h5c := blk_cell h5b 0; clear h5b))
        go_end0
        exact ⟨rfl, by rw [HST.out]; exact (HN.out _ HB2.out).1, (HN.out _ HB2.out).2⟩
    · have c1' : areT deep l0 o = false := by simpa using d1
      rw [c1'] at har
      have HST : Aside0 (bestSt l0 deep cost s o m = s) := ⟨by unfold bestSt; rw [if_neg d1]⟩
      clear d1 c1'
      go_enter Try.func108, Try.ntmps108
      go_wp2_with (first | (go_at_call 109; refine (har.out _ ?_).mono ?_; (exact HB.out); rintro e w1 ⟨rfl, hb1⟩; have HB1 := Aside0.mk hb1; clear hb1))
      exact bodyPost_ret (v := .tuple #[]) (by simp [results, Try.results108, go_sem]) rfl ⟨rfl, by rw [HST.out]; exact (HN.out _ HB1.out).1, (HN.out _ HB1.out).2⟩
theorem three_new (w : World) (A B C : Obj) : (((w.alloc A).alloc B).alloc C).heap[w.heap.size]? = some A ∧ (((w.alloc A).alloc B).alloc C).heap[w.heap.size + 1]? = some B ∧ (((w.alloc A).alloc B).alloc C).heap[w.heap.size + 2]? = some C ∧ (((w.alloc A).alloc B).alloc C).heap.size = w.heap.size + 3 := by
  have s1 : (w.alloc A).heap.size = w.heap.size + 1 := by simp
  have s2 : ((w.alloc A).alloc B).heap.size = w.heap.size + 2 := by simp
  have h1 := blk_new (w.alloc A) B
  have h2 := blk_new ((w.alloc A).alloc B) C
  rw [s1] at h1
  rw [s2] at h2
  exact ⟨blk_alloc (blk_alloc (blk_new w A) B) C, blk_alloc h1 C, h2, by simp⟩
set_option maxHeartbeats 4000000 in
set_option maxRecDepth 100000 in
theorem impl_bestTrips.calls (a0 : Int) (A0 : Option Addr) (c0 : Nat) (l0 : List (S90)) (D : Nat) (caps : Array Value) (cost : List Int → Int → Int) (w : World) (hco : Co w l0.length D caps cost) (hr0 : Kd.C k90 w A0 l0.length l0) (hc0 : l0.length ≤ c0) (h7 : l0.length ≤ 7) :
    Calls Try.prog 74 #[.int .i64 a0, .slice A0 l0.length c0, .func (.func D) #[] caps] w fun e w' => ∃ v0_ : Value, e = .returned (.tuple #[v0_, .int .i64 (bestRun l0 a0 cost).2, .bool (decide (0 ≤ (bestRun l0 a0 cost).2))]) ∧ Kd.R (Kd.int .i64) 2 w' w.heap.size (fun _ => True) v0_ (bestRun l0 a0 cost).1 ∧ Below w.heap.size w w' := by
  have h3 := three_new w (.cells #[.int .i64 a0] 2) (.cells #[.slice A0 l0.length c0] 48) (.cells #[.func (.func D) #[] caps] 78)
  have hp1 : ∀ o o', (((((w.alloc (.cells #[.int .i64 a0] 2)).alloc (.cells #[.slice A0 l0.length c0] 48)).alloc (.cells #[.func (.func D) #[] caps] 78)).alloc o).alloc o').cell? ⟨w.heap.size + 1, 0, none⟩ = some (.slice A0 l0.length c0) := fun o o' => blk_cell (blk_alloc (blk_alloc h3.2.1 o) o') 0
  have hpa : Aside0 (∀ w1, w1 = ((w.alloc (.cells #[.int .i64 a0] 2)).alloc (.cells #[.slice A0 l0.length c0] 48)).alloc (.cells #[.func (.func D) #[] caps] 78) → Calls Try.prog 101 #[.int .i64 l0.length, .func (.func 108) #[] #[.pointer (some ⟨w.heap.size, 0, none⟩), .pointer (some ⟨w.heap.size + 1, 0, none⟩), .pointer (some ⟨w.heap.size + 2, 0, none⟩), .pointer (some ⟨w.heap.size + 4, 0, none⟩), .pointer (some ⟨w.heap.size + 3, 0, none⟩)]] ((w1.alloc (.cells #[.slice none 0 0] 30)).alloc (.cells #[.int .i64 (-1)] 2)) fun e w' => e = .returned (.tuple #[]) ∧ Below w.heap.size w w' ∧ w'.cell? ⟨w.heap.size + 4, 0, none⟩ = some (.int .i64 (bestRun l0 a0 cost).2) ∧ ∃ v, w'.cell? ⟨w.heap.size + 3, 0, none⟩ = some v ∧ Kd.R (Kd.int .i64) 2 w' w.heap.size (fun _ => True) v (bestRun l0 a0 cost).1) := ⟨fun w1 hw => by
    have hs : w1.heap.size = w.heap.size + 3 := by rw [hw]; exact h3.2.2.2
    have hL := h3.1
    have hD := h3.2.1
    have hF := h3.2.2.1
    rw [← hw] at hL hD hF
    have s1 : (w1.alloc (.cells #[.slice none 0 0] 30)).heap.size = w.heap.size + 4 := by simp [hs]
    have hw1 : Below w.heap.size w w1 := by rw [hw]; exact below_alloc (below_alloc (below_alloc (Below.refl _ _) _) _) _
    have hO : ((w1.alloc (.cells #[.slice none 0 0] 30)).alloc (.cells #[.int .i64 (-1)] 2)).heap[w.heap.size + 3]? = some (.cells #[.slice none 0 0] 30 (0, 0)) := by
      have := blk_alloc (blk_new w1 (.cells #[.slice none 0 0] 30)) (.cells #[.int .i64 (-1)] 2)
      rw [hs] at this
      exact this
    have hM : ((w1.alloc (.cells #[.slice none 0 0] 30)).alloc (.cells #[.int .i64 (-1)] 2)).heap[w.heap.size + 4]? = some (.cells #[.int .i64 (-1)] 2 (0, 0)) := by
      have := blk_new (w1.alloc (.cells #[.slice none 0 0] 30)) (.cells #[.int .i64 (-1)] 2)
      rw [s1] at this
      exact this
    have C := best_cb w A0 c0 l0 a0 D caps cost hco hr0 hc0 h7 w.heap.size (w.heap.size + 3) ((w1.alloc (.cells #[.slice none 0 0] 30)).alloc (.cells #[.int .i64 (-1)] 2)).heap.size (Nat.le_refl _) (by omega) (by simp [hs])
    have := impl_partings.calls ((w1.alloc (.cells #[.slice none 0 0] 30)).alloc (.cells #[.int .i64 (-1)] 2)) C (by omega) ([], -1) (fun G W hG hW => ⟨((hw1.alloc hw1.size _).alloc (by simp; have := hw1.size; omega) _).trans (hW.mono (by have := hw1.size; simp; omega)), blk_below (blk_alloc (blk_alloc hL _) _) hW, blk_below (blk_alloc (blk_alloc hD _) _) hW, blk_below (blk_alloc (blk_alloc hF _) _) hW, blk_below hM hW, _, blk_below hO hW, Kd.R_nil _ _ _ _ _⟩)
    exact this.mono fun e w' ⟨h1, G, hG, h2⟩ => ⟨h1, h2.1, blk_cell h2.2.2.2.2.1 0, by
      obtain ⟨v, h3, h4⟩ := h2.2.2.2.2.2
      have hG' : w.heap.size ≤ G := by have := hw1.size; simp at hG; omega
      exact ⟨v, blk_cell h3 0, Kd.R_lower h4 (by omega)⟩⟩⟩
  clear hco hr0 hc0 h7 h3
  go_enter Try.func74, Try.ntmps74
  go_wp2_with (first | (go_at_call 101; refine (hpa.out _ rfl).mono ?_; rintro e w2 ⟨rfl, hb2, hcm, vo, hco2, hro⟩; have HB2 := Aside0.mk hb2; have HRO := Aside0.mk hro; clear hb2 hro))
  go_region
  all_goals go_wp2
  all_goals exact bodyPost_ret (v := .tuple #[vo, .int .i64 (bestRun l0 a0 cost).2, .bool (decide (0 ≤ (bestRun l0 a0 cost).2))]) (by simp [results, Try.results74, go_sem]) rfl ⟨_, rfl, Kd.R_drew HRO.out, below_drew HB2.out⟩

/-! ### impl_FewestTrips: function 35: this session's own text -/
def impl_FewestTrips.f (a0 : Int) (l1 : List S90) : Option (List Int × Int × Int) := (impl_seatsCode.f (l1.length + 2) a0 l1).bind fun t => if t = 0 then (if l1.length ≤ 7 then some (if 0 ≤ (bestRun l1 a0 (fun _ m => m)).2 then ((bestRun l1 a0 (fun _ m => m)).1, (bestRun l1 a0 (fun _ m => m)).2, 0) else ([], 0, 6)) else none) else some ([], 0, t)
set_option maxHeartbeats 2000000 in
set_option maxRecDepth 100000 in
theorem fewestT_co (w : World) (n : Nat) : Co w n 75 #[] (fun _ m => m) where
  enters := enters_any Try.func75 (by kernel_rfl) rfl
  called := by
    intro W v o m hb hR ho hin hm
    go_enter Try.func75, Try.ntmps75
    go_wp2
    go_ret
    exact ⟨by first | rfl | (simp; done), Below.refl _ _⟩
set_option maxHeartbeats 2000000 in
set_option maxRecDepth 100000 in
theorem impl_FewestTrips.calls (a0 : Int) (A1 : Option Addr) (c1 : Nat) (l1 : List (S90)) (r1 : List Int) (r2 r3 : Int) (w : World) (hr1 : Kd.C k90 w A1 l1.length l1) (hc1 : l1.length ≤ c1) (h : impl_FewestTrips.f a0 l1 = some (r1, r2, r3)) :
    Calls Try.prog 35 #[.int .i64 a0, .slice A1 l1.length c1] w fun e w' => ∃ v0_ : Value, e = .returned (.tuple #[v0_, .int .i64 r2, .int .i64 r3]) ∧ Kd.R (Kd.int .i64) 2 w' w.heap.size (fun _ => True) v0_ r1 ∧ Below w.heap.size w w' := by
  unfold impl_FewestTrips.f at h
  obtain ⟨t, A3, h⟩ := Option.bind_eq_some_iff.mp h
  have hcs : Aside0 (Calls Try.prog 73 #[.int .i64 a0, .slice A1 l1.length c1] w fun e w' => e = .returned (.int .i64 t) ∧ Below w.heap.size w w') := ⟨impl_seatsCode.calls _ a0 A1 c1 l1 t w hr1 hc1 A3⟩
  clear A3
  by_cases ht : t = 0
  · rw [if_pos ht] at h
    subst ht
    by_cases h7 : l1.length ≤ 7
    · rw [if_pos h7] at h
      have hbr : Aside0 (∀ W, Below w.heap.size w W → Calls Try.prog 74 #[.int .i64 a0, .slice A1 l1.length c1, .func (.func 75) #[] #[]] W fun e w' => ∃ v0_ : Value, e = .returned (.tuple #[v0_, .int .i64 (bestRun l1 a0 (fun _ m => m)).2, .bool (decide (0 ≤ (bestRun l1 a0 (fun _ m => m)).2))]) ∧ Kd.R (Kd.int .i64) 2 w' W.heap.size (fun _ => True) v0_ (bestRun l1 a0 (fun _ m => m)).1 ∧ Below W.heap.size W w') := ⟨fun W hW => impl_bestTrips.calls a0 A1 c1 l1 75 #[] _ W (fewestT_co W l1.length) (Kd.C_below hr1 hW) hc1 h7⟩
      clear hr1 hc1 h7
      generalize bestRun l1 a0 (fun _ m => m) = B at h hbr
      obtain ⟨b, hb⟩ : ∃ b, b = decide (0 ≤ B.2) := ⟨_, rfl⟩
      rw [← hb] at hbr
      have h' := Option.some.inj h
      clear h
      cases b with
      | false =>
        rw [if_neg (of_decide_eq_false hb.symm)] at h'
        obtain ⟨rfl, e2⟩ := Prod.mk.inj h'
        obtain ⟨rfl, rfl⟩ := Prod.mk.inj e2
        clear h' e2 hb
        go_enter Try.func35, Try.ntmps35
        go_wp2_with (first | (go_at_call 73; refine hcs.out.mono ?_; rintro e w1 ⟨rfl, hb1⟩; have HB1 := Aside0.mk hb1; clear hb1) | (go_at_call 74; refine (hbr.out _ HB1.out).mono ?_; rintro e w2 ⟨v, rfl, hv, hb2⟩; have HV := Aside0.mk (And.intro hv (HB1.out.trans (hb2.mono HB1.out.size))); clear hv hb2))
        exact bodyPost_ret (v := .tuple #[.slice none 0 0, .int .i64 0, .int .i64 6]) (by simp [results, Try.results35, go_sem]) rfl ⟨_, rfl, Kd.R_nil _ _ _ _ _, HV.out.2⟩
      | true =>
        rw [if_pos (of_decide_eq_true hb.symm)] at h'
        obtain ⟨rfl, e2⟩ := Prod.mk.inj h'
        obtain ⟨rfl, rfl⟩ := Prod.mk.inj e2
        clear h' e2 hb
        go_enter Try.func35, Try.ntmps35
        go_wp2_with (first | (go_at_call 73; refine hcs.out.mono ?_; rintro e w1 ⟨rfl, hb1⟩; have HB1 := Aside0.mk hb1; clear hb1) | (go_at_call 74; refine (hbr.out _ HB1.out).mono ?_; rintro e w2 ⟨v, rfl, hv, hb2⟩; have HV := Aside0.mk (And.intro hv (And.intro hb2.size (HB1.out.trans (hb2.mono HB1.out.size)))); have HS := Aside0.mk HB1.out.size; clear hv hb2))
        exact bodyPost_ret (v := .tuple #[v, .int .i64 B.2, .int .i64 0]) (by simp [results, Try.results35, go_sem]) rfl ⟨_, rfl, Kd.R_lower HV.out.1 HS.out, HV.out.2.2⟩
    · rw [if_neg h7] at h; cases h
  · rw [if_neg ht] at h
    clear hr1 hc1
    obtain ⟨rfl, e2⟩ := Prod.mk.inj (Option.some.inj h)
    obtain ⟨rfl, rfl⟩ := Prod.mk.inj e2
    clear h e2
    have htb : (t != 0) = true := bne_iff_ne.mpr ht
    go_enter Try.func35, Try.ntmps35
    go_wp2_with (first | (go_at_call 73; refine hcs.out.mono ?_; rintro e w1 ⟨rfl, hb1⟩; have HB1 := Aside0.mk hb1; clear hb1))
    exact bodyPost_ret (v := .tuple #[.slice none 0 0, .int .i64 0, .int .i64 t]) (by simp [results, Try.results35, go_sem]) rfl ⟨_, rfl, Kd.R_nil _ _ _ _ _, HB1.out⟩

/-! ### laws_eqPlace: function 110 -/
def laws_eqPlace.f (a0_0 : Int) (a0_1 : Int) (a1_0 : Int) (a1_1 : Int) : Option (Bool) := if a0_0 = a1_0 then (if a0_1 = a1_1 then (some true) else (some false)) else (some false)
set_option maxHeartbeats 8000000 in
set_option maxRecDepth 100000 in
theorem laws_eqPlace.calls (a0_0 : Int) (a0_1 : Int) (a1_0 : Int) (a1_1 : Int) (r : Bool) (w : World) (h : laws_eqPlace.f a0_0 a0_1 a1_0 a1_1 = some r) :
    Calls Try.prog 110 #[.agg #[.int .i8 a0_0, .int .i8 a0_1], .agg #[.int .i8 a1_0, .int .i8 a1_1]] w fun e w' => e = .returned (.bool r) ∧ Below w.heap.size w w' := by
  have hu88 := Try.underlying88
  have HB := Aside0.mk (Below.refl w.heap.size w)
  have H : (if a0_0 = a1_0 then (if a0_1 = a1_1 then (some true) else (some false)) else (some false)) = some r := h
  clear h
  by_cases c3 : a0_0 = a1_0
  · rw [if_pos c3] at H
    have c3b0 : (a0_0 == a1_0) = true := beq_iff_eq.mpr c3
    have c3b1 : (a0_0 != a1_0) = false := bne_eq_false_iff_eq.mpr c3
    clear c3
    by_cases c4 : a0_1 = a1_1
    · rw [if_pos c4] at H
      have c4b0 : (a0_1 == a1_1) = true := beq_iff_eq.mpr c4
      have c4b1 : (a0_1 != a1_1) = false := bne_eq_false_iff_eq.mpr c4
      clear c4
      obtain rfl := Option.some.inj H
      go_enter Try.func110, Try.ntmps110
      go_wp2_with (first | ((with_reducible refine gate_dst (N := 2) rfl ?_); refine box_event ?hg (N := 2) ?hd (cs := #[.int .i8 a0_0, .int .i8 a0_1]) (t := 88) ?hr ?_; (case hd => rfl); (case hg => rfl); (case hr => first | (go_simp; done) | (go_simp; rfl)); intro gb131 hg w5 hbox hb; have n0_ := Aside0.mk (below_step (by repeat (first | (with_reducible first | exact HB.out | apply below_alloc | apply pw_below_drewN | apply below_drew1) | exact HB.out)) hb); have n1_ := Aside0.mk (hbox); have n2_ := Aside0.mk ((by rw [hg]; exact (below_size (by repeat (first | (with_reducible first | exact HB.out | apply below_alloc | apply pw_below_drewN | apply below_drew1) | exact HB.out))) : w.heap.size ≤ gb131)); have n3_ := Aside0.mk ((by rw [hg]; exact (below_size (by repeat (first | (with_reducible first | exact HB.out | apply below_alloc | apply pw_below_drewN | apply below_drew1) | exact HB.out))) : w.heap.size ≤ gb131)); clear HB; have HB := n0_; have BK131 := n1_; have GW131 := n2_; have GE131 := n3_; clear n0_ n1_ n2_ n3_; clear hb hbox hg) | ((with_reducible refine gate_dst (N := 3) rfl ?_); refine box_event ?hg (N := 3) ?hd (cs := #[.int .i8 a1_0, .int .i8 a1_1]) (t := 88) ?hr ?_; (case hd => rfl); (case hg => rfl); (case hr => first | (go_simp; done) | (go_simp; rfl)); intro gb132 hg w6 hbox hb; have n0_ := Aside0.mk (blk_below (g := gb131) (o := .cells #[.int .i8 a0_0, .int .i8 a0_1] 88 (0, 0)) (by (with_reducible repeat (first | refine blk_drewN ?_ _ | refine blk_drew ?_ | refine blk_alloc ?_ _)); exact BK131.out) hb); have n1_ := Aside0.mk (below_step (by repeat (first | (with_reducible first | exact HB.out | apply below_alloc | apply pw_below_drewN | apply below_drew1 | refine below_set ?_ GE131.out) | exact HB.out)) hb); have n2_ := Aside0.mk (hbox); have n3_ := Aside0.mk ((by rw [hg]; exact (below_size (by repeat (first | (with_reducible first | exact HB.out | apply below_alloc | apply pw_below_drewN | apply below_drew1 | refine below_set ?_ GE131.out) | exact HB.out))) : w.heap.size ≤ gb132)); have n4_ := Aside0.mk ((by rw [hg]; exact (below_size (by repeat (first | (with_reducible first | exact HB.out | apply below_alloc | apply pw_below_drewN | apply below_drew1 | refine below_set ?_ GE131.out) | exact HB.out))) : w.heap.size ≤ gb132)); have n5_ := Aside0.mk ((by rw [hg]; exact Nat.ne_of_lt (blk_lt (g := gb131) (o := .cells #[.int .i8 a0_0, .int .i8 a0_1] 88 (0, 0)) (by (with_reducible repeat (first | refine blk_drewN ?_ _ | refine blk_drew ?_ | refine blk_alloc ?_ _)); exact BK131.out)) : gb131 ≠ gb132)); have n6_ := Aside0.mk ((by rw [hg]; exact Nat.ne_of_gt (blk_lt (g := gb131) (o := .cells #[.int .i8 a0_0, .int .i8 a0_1] 88 (0, 0)) (by (with_reducible repeat (first | refine blk_drewN ?_ _ | refine blk_drew ?_ | refine blk_alloc ?_ _)); exact BK131.out)) : gb132 ≠ gb131)); clear BK131; clear HB; have BK131 := n0_; have HB := n1_; have BK132 := n2_; have GW132 := n3_; have GE132 := n4_; have NB131_132 := n5_; have NB132_131 := n6_; clear n0_ n1_ n2_ n3_ n4_ n5_ n6_; clear hb hbox hg; have hnb7 := NB131_132.out; have hnc7 := NB132_131.out; have hcz8_0 : w6.cell? ⟨gb131, 0, none⟩ = some (.int .i8 a0_0) := (blk_cell BK131.out 0).trans rfl; have hcz8_1 : w6.cell? ⟨gb131, 1, none⟩ = some (.int .i8 a0_1) := (blk_cell BK131.out 1).trans rfl; have hfz8_0 := blk_frozen BK131.out 0; have hfz8_1 := blk_frozen BK131.out 1; have hcz9_0 : w6.cell? ⟨gb132, 0, none⟩ = some (.int .i8 a1_0) := (blk_cell BK132.out 0).trans rfl; have hcz9_1 : w6.cell? ⟨gb132, 1, none⟩ = some (.int .i8 a1_1) := (blk_cell BK132.out 1).trans rfl; have hfz9_0 := blk_frozen BK132.out 0; have hfz9_1 := blk_frozen BK132.out 1))
      go_ret
      exact ⟨by first | rfl | (simp [errW_none, errW_some] <;> rfl) | (simp [*, errW_none, errW_some] <;> rfl), by repeat (first | (with_reducible first | exact HB.out | apply below_alloc | apply pw_below_drewN | apply below_drew1 | refine below_set ?_ GE131.out | refine below_set ?_ GE132.out) | exact HB.out)⟩
    · rw [if_neg c4] at H
      have c4b0 : (a0_1 == a1_1) = false := beq_eq_false_iff_ne.mpr c4
      have c4b1 : (a0_1 != a1_1) = true := bne_iff_ne.mpr c4
      obtain rfl := Option.some.inj H
      go_enter Try.func110, Try.ntmps110
      go_wp2_with (first | ((with_reducible refine gate_dst (N := 2) rfl ?_); refine box_event ?hg (N := 2) ?hd (cs := #[.int .i8 a0_0, .int .i8 a0_1]) (t := 88) ?hr ?_; (case hd => rfl); (case hg => rfl); (case hr => first | (go_simp; done) | (go_simp; rfl)); intro gb131 hg w10 hbox hb; have n0_ := Aside0.mk (below_step (by repeat (first | (with_reducible first | exact HB.out | apply below_alloc | apply pw_below_drewN | apply below_drew1) | exact HB.out)) hb); have n1_ := Aside0.mk (hbox); have n2_ := Aside0.mk ((by rw [hg]; exact (below_size (by repeat (first | (with_reducible first | exact HB.out | apply below_alloc | apply pw_below_drewN | apply below_drew1) | exact HB.out))) : w.heap.size ≤ gb131)); have n3_ := Aside0.mk ((by rw [hg]; exact (below_size (by repeat (first | (with_reducible first | exact HB.out | apply below_alloc | apply pw_below_drewN | apply below_drew1) | exact HB.out))) : w.heap.size ≤ gb131)); clear HB; have HB := n0_; have BK131 := n1_; have GW131 := n2_; have GE131 := n3_; clear n0_ n1_ n2_ n3_; clear hb hbox hg) | ((with_reducible refine gate_dst (N := 3) rfl ?_); refine box_event ?hg (N := 3) ?hd (cs := #[.int .i8 a1_0, .int .i8 a1_1]) (t := 88) ?hr ?_; (case hd => rfl); (case hg => rfl); (case hr => first | (go_simp; done) | (go_simp; rfl)); intro gb132 hg w11 hbox hb; have n0_ := Aside0.mk (blk_below (g := gb131) (o := .cells #[.int .i8 a0_0, .int .i8 a0_1] 88 (0, 0)) (by (with_reducible repeat (first | refine blk_drewN ?_ _ | refine blk_drew ?_ | refine blk_alloc ?_ _)); exact BK131.out) hb); have n1_ := Aside0.mk (below_step (by repeat (first | (with_reducible first | exact HB.out | apply below_alloc | apply pw_below_drewN | apply below_drew1 | refine below_set ?_ GE131.out) | exact HB.out)) hb); have n2_ := Aside0.mk (hbox); have n3_ := Aside0.mk ((by rw [hg]; exact (below_size (by repeat (first | (with_reducible first | exact HB.out | apply below_alloc | apply pw_below_drewN | apply below_drew1 | refine below_set ?_ GE131.out) | exact HB.out))) : w.heap.size ≤ gb132)); have n4_ := Aside0.mk ((by rw [hg]; exact (below_size (by repeat (first | (with_reducible first | exact HB.out | apply below_alloc | apply pw_below_drewN | apply below_drew1 | refine below_set ?_ GE131.out) | exact HB.out))) : w.heap.size ≤ gb132)); have n5_ := Aside0.mk ((by rw [hg]; exact Nat.ne_of_lt (blk_lt (g := gb131) (o := .cells #[.int .i8 a0_0, .int .i8 a0_1] 88 (0, 0)) (by (with_reducible repeat (first | refine blk_drewN ?_ _ | refine blk_drew ?_ | refine blk_alloc ?_ _)); exact BK131.out)) : gb131 ≠ gb132)); have n6_ := Aside0.mk ((by rw [hg]; exact Nat.ne_of_gt (blk_lt (g := gb131) (o := .cells #[.int .i8 a0_0, .int .i8 a0_1] 88 (0, 0)) (by (with_reducible repeat (first | refine blk_drewN ?_ _ | refine blk_drew ?_ | refine blk_alloc ?_ _)); exact BK131.out)) : gb132 ≠ gb131)); clear BK131; clear HB; have BK131 := n0_; have HB := n1_; have BK132 := n2_; have GW132 := n3_; have GE132 := n4_; have NB131_132 := n5_; have NB132_131 := n6_; clear n0_ n1_ n2_ n3_ n4_ n5_ n6_; clear hb hbox hg; have hnb12 := NB131_132.out; have hnc12 := NB132_131.out; have hcz13_0 : w11.cell? ⟨gb131, 0, none⟩ = some (.int .i8 a0_0) := (blk_cell BK131.out 0).trans rfl; have hcz13_1 : w11.cell? ⟨gb131, 1, none⟩ = some (.int .i8 a0_1) := (blk_cell BK131.out 1).trans rfl; have hfz13_0 := blk_frozen BK131.out 0; have hfz13_1 := blk_frozen BK131.out 1; have hcz14_0 : w11.cell? ⟨gb132, 0, none⟩ = some (.int .i8 a1_0) := (blk_cell BK132.out 0).trans rfl; have hcz14_1 : w11.cell? ⟨gb132, 1, none⟩ = some (.int .i8 a1_1) := (blk_cell BK132.out 1).trans rfl; have hfz14_0 := blk_frozen BK132.out 0; have hfz14_1 := blk_frozen BK132.out 1))
      go_ret
      exact ⟨by first | rfl | (simp [errW_none, errW_some] <;> rfl) | (simp [*, errW_none, errW_some] <;> rfl), by repeat (first | (with_reducible first | exact HB.out | apply below_alloc | apply pw_below_drewN | apply below_drew1 | refine below_set ?_ GE131.out | refine below_set ?_ GE132.out) | exact HB.out)⟩
  · rw [if_neg c3] at H
    have c3b0 : (a0_0 == a1_0) = false := beq_eq_false_iff_ne.mpr c3
    have c3b1 : (a0_0 != a1_0) = true := bne_iff_ne.mpr c3
    obtain rfl := Option.some.inj H
    go_enter Try.func110, Try.ntmps110
    go_wp2_with (first | ((with_reducible refine gate_dst (N := 2) rfl ?_); refine box_event ?hg (N := 2) ?hd (cs := #[.int .i8 a0_0, .int .i8 a0_1]) (t := 88) ?hr ?_; (case hd => rfl); (case hg => rfl); (case hr => first | (go_simp; done) | (go_simp; rfl)); intro gb131 hg w15 hbox hb; have n0_ := Aside0.mk (below_step (by repeat (first | (with_reducible first | exact HB.out | apply below_alloc | apply pw_below_drewN | apply below_drew1) | exact HB.out)) hb); have n1_ := Aside0.mk (hbox); have n2_ := Aside0.mk ((by rw [hg]; exact (below_size (by repeat (first | (with_reducible first | exact HB.out | apply below_alloc | apply pw_below_drewN | apply below_drew1) | exact HB.out))) : w.heap.size ≤ gb131)); have n3_ := Aside0.mk ((by rw [hg]; exact (below_size (by repeat (first | (with_reducible first | exact HB.out | apply below_alloc | apply pw_below_drewN | apply below_drew1) | exact HB.out))) : w.heap.size ≤ gb131)); clear HB; have HB := n0_; have BK131 := n1_; have GW131 := n2_; have GE131 := n3_; clear n0_ n1_ n2_ n3_; clear hb hbox hg) | ((with_reducible refine gate_dst (N := 3) rfl ?_); refine box_event ?hg (N := 3) ?hd (cs := #[.int .i8 a1_0, .int .i8 a1_1]) (t := 88) ?hr ?_; (case hd => rfl); (case hg => rfl); (case hr => first | (go_simp; done) | (go_simp; rfl)); intro gb132 hg w16 hbox hb; have n0_ := Aside0.mk (blk_below (g := gb131) (o := .cells #[.int .i8 a0_0, .int .i8 a0_1] 88 (0, 0)) (by (with_reducible repeat (first | refine blk_drewN ?_ _ | refine blk_drew ?_ | refine blk_alloc ?_ _)); exact BK131.out) hb); have n1_ := Aside0.mk (below_step (by repeat (first | (with_reducible first | exact HB.out | apply below_alloc | apply pw_below_drewN | apply below_drew1 | refine below_set ?_ GE131.out) | exact HB.out)) hb); have n2_ := Aside0.mk (hbox); have n3_ := Aside0.mk ((by rw [hg]; exact (below_size (by repeat (first | (with_reducible first | exact HB.out | apply below_alloc | apply pw_below_drewN | apply below_drew1 | refine below_set ?_ GE131.out) | exact HB.out))) : w.heap.size ≤ gb132)); have n4_ := Aside0.mk ((by rw [hg]; exact (below_size (by repeat (first | (with_reducible first | exact HB.out | apply below_alloc | apply pw_below_drewN | apply below_drew1 | refine below_set ?_ GE131.out) | exact HB.out))) : w.heap.size ≤ gb132)); have n5_ := Aside0.mk ((by rw [hg]; exact Nat.ne_of_lt (blk_lt (g := gb131) (o := .cells #[.int .i8 a0_0, .int .i8 a0_1] 88 (0, 0)) (by (with_reducible repeat (first | refine blk_drewN ?_ _ | refine blk_drew ?_ | refine blk_alloc ?_ _)); exact BK131.out)) : gb131 ≠ gb132)); have n6_ := Aside0.mk ((by rw [hg]; exact Nat.ne_of_gt (blk_lt (g := gb131) (o := .cells #[.int .i8 a0_0, .int .i8 a0_1] 88 (0, 0)) (by (with_reducible repeat (first | refine blk_drewN ?_ _ | refine blk_drew ?_ | refine blk_alloc ?_ _)); exact BK131.out)) : gb132 ≠ gb131)); clear BK131; clear HB; have BK131 := n0_; have HB := n1_; have BK132 := n2_; have GW132 := n3_; have GE132 := n4_; have NB131_132 := n5_; have NB132_131 := n6_; clear n0_ n1_ n2_ n3_ n4_ n5_ n6_; clear hb hbox hg; have hnb17 := NB131_132.out; have hnc17 := NB132_131.out; have hcz18_0 : w16.cell? ⟨gb131, 0, none⟩ = some (.int .i8 a0_0) := (blk_cell BK131.out 0).trans rfl; have hcz18_1 : w16.cell? ⟨gb131, 1, none⟩ = some (.int .i8 a0_1) := (blk_cell BK131.out 1).trans rfl; have hfz18_0 := blk_frozen BK131.out 0; have hfz18_1 := blk_frozen BK131.out 1; have hcz19_0 : w16.cell? ⟨gb132, 0, none⟩ = some (.int .i8 a1_0) := (blk_cell BK132.out 0).trans rfl; have hcz19_1 : w16.cell? ⟨gb132, 1, none⟩ = some (.int .i8 a1_1) := (blk_cell BK132.out 1).trans rfl; have hfz19_0 := blk_frozen BK132.out 0; have hfz19_1 := blk_frozen BK132.out 1))
    go_ret
    exact ⟨by first | rfl | (simp [errW_none, errW_some] <;> rfl) | (simp [*, errW_none, errW_some] <;> rfl), by repeat (first | (with_reducible first | exact HB.out | apply below_alloc | apply pw_below_drewN | apply below_drew1 | refine below_set ?_ GE131.out | refine below_set ?_ GE132.out) | exact HB.out)⟩

/-! ### laws_eqCrew: function 76 -/
def laws_eqCrew.f (a0_0 : Int) (a0_1 : Int) (a0_2 : Int) (a1_0 : Int) (a1_1 : Int) (a1_2 : Int) : Option (Bool) := (laws_eqPlace.f a0_0 a0_1 a1_0 a1_1).bind fun t135 => (if t135 = true then (if a0_2 = a1_2 then (some true) else (some false)) else (some false))
set_option maxHeartbeats 8000000 in
set_option maxRecDepth 100000 in
theorem laws_eqCrew.calls (a0_0 : Int) (a0_1 : Int) (a0_2 : Int) (a1_0 : Int) (a1_1 : Int) (a1_2 : Int) (r : Bool) (w : World) (h : laws_eqCrew.f a0_0 a0_1 a0_2 a1_0 a1_1 a1_2 = some r) :
    Calls Try.prog 76 #[.agg #[.int .i8 a0_0, .int .i8 a0_1, .int .i8 a0_2], .agg #[.int .i8 a1_0, .int .i8 a1_1, .int .i8 a1_2]] w fun e w' => e = .returned (.bool r) ∧ Below w.heap.size w w' := by
  have hu90 := Try.underlying90
  have hu88 := Try.underlying88
  have HB := Aside0.mk (Below.refl w.heap.size w)
  have H : ((laws_eqPlace.f a0_0 a0_1 a1_0 a1_1).bind fun t135 => (if t135 = true then (if a0_2 = a1_2 then (some true) else (some false)) else (some false))) = some r := h
  clear h
  replace H := Option.bind_eq_some_iff.mp H
  obtain ⟨t135, A30, H⟩ := H
  replace H : (if t135 = true then (if a0_2 = a1_2 then (some true) else (some false)) else (some false)) = some r := H
  have A3 := Aside0.mk A30
  clear A30
  by_cases c4 : t135 = true
  · subst c4
    have H1 : (if a0_2 = a1_2 then (some true) else (some false)) = some r := by rw [if_pos rfl] at H; exact H
    clear H
    have H := H1
    clear H1
    by_cases c5 : a0_2 = a1_2
    · rw [if_pos c5] at H
      have c5b0 : (a0_2 == a1_2) = true := beq_iff_eq.mpr c5
      have c5b1 : (a0_2 != a1_2) = false := bne_eq_false_iff_eq.mpr c5
      clear c5
      obtain rfl := Option.some.inj H
      go_enter Try.func76, Try.ntmps76
      go_wp2_with (first | ((with_reducible refine gate_dst (N := 2) rfl ?_); refine box_event ?hg (N := 2) ?hd (cs := #[.int .i8 a0_0, .int .i8 a0_1, .int .i8 a0_2]) (t := 90) ?hr ?_; (case hd => rfl); (case hg => rfl); (case hr => first | (go_simp; done) | (go_simp; rfl)); intro gb133 hg w6 hbox hb; have n0_ := Aside0.mk (below_step (by repeat (first | (with_reducible first | exact HB.out | apply below_alloc | apply pw_below_drewN | apply below_drew1) | exact HB.out)) hb); have n1_ := Aside0.mk (hbox); have n2_ := Aside0.mk ((by rw [hg]; exact (below_size (by repeat (first | (with_reducible first | exact HB.out | apply below_alloc | apply pw_below_drewN | apply below_drew1) | exact HB.out))) : w.heap.size ≤ gb133)); have n3_ := Aside0.mk ((by rw [hg]; exact (below_size (by repeat (first | (with_reducible first | exact HB.out | apply below_alloc | apply pw_below_drewN | apply below_drew1) | exact HB.out))) : w.heap.size ≤ gb133)); clear HB; have HB := n0_; have BK133 := n1_; have GW133 := n2_; have GE133 := n3_; clear n0_ n1_ n2_ n3_; clear hb hbox hg) | ((with_reducible refine gate_dst (N := 3) rfl ?_); refine box_event ?hg (N := 3) ?hd (cs := #[.int .i8 a1_0, .int .i8 a1_1, .int .i8 a1_2]) (t := 90) ?hr ?_; (case hd => rfl); (case hg => rfl); (case hr => first | (go_simp; done) | (go_simp; rfl)); intro gb134 hg w7 hbox hb; have n0_ := Aside0.mk (blk_below (g := gb133) (o := .cells #[.int .i8 a0_0, .int .i8 a0_1, .int .i8 a0_2] 90 (0, 0)) (by (with_reducible repeat (first | refine blk_drewN ?_ _ | refine blk_drew ?_ | refine blk_alloc ?_ _)); exact BK133.out) hb); have n1_ := Aside0.mk (below_step (by repeat (first | (with_reducible first | exact HB.out | apply below_alloc | apply pw_below_drewN | apply below_drew1 | refine below_set ?_ GE133.out) | exact HB.out)) hb); have n2_ := Aside0.mk (hbox); have n3_ := Aside0.mk ((by rw [hg]; exact (below_size (by repeat (first | (with_reducible first | exact HB.out | apply below_alloc | apply pw_below_drewN | apply below_drew1 | refine below_set ?_ GE133.out) | exact HB.out))) : w.heap.size ≤ gb134)); have n4_ := Aside0.mk ((by rw [hg]; exact (below_size (by repeat (first | (with_reducible first | exact HB.out | apply below_alloc | apply pw_below_drewN | apply below_drew1 | refine below_set ?_ GE133.out) | exact HB.out))) : w.heap.size ≤ gb134)); have n5_ := Aside0.mk ((by rw [hg]; exact Nat.ne_of_lt (blk_lt (g := gb133) (o := .cells #[.int .i8 a0_0, .int .i8 a0_1, .int .i8 a0_2] 90 (0, 0)) (by (with_reducible repeat (first | refine blk_drewN ?_ _ | refine blk_drew ?_ | refine blk_alloc ?_ _)); exact BK133.out)) : gb133 ≠ gb134)); have n6_ := Aside0.mk ((by rw [hg]; exact Nat.ne_of_gt (blk_lt (g := gb133) (o := .cells #[.int .i8 a0_0, .int .i8 a0_1, .int .i8 a0_2] 90 (0, 0)) (by (with_reducible repeat (first | refine blk_drewN ?_ _ | refine blk_drew ?_ | refine blk_alloc ?_ _)); exact BK133.out)) : gb134 ≠ gb133)); clear BK133; clear HB; have BK133 := n0_; have HB := n1_; have BK134 := n2_; have GW134 := n3_; have GE134 := n4_; have NB133_134 := n5_; have NB134_133 := n6_; clear n0_ n1_ n2_ n3_ n4_ n5_ n6_; clear hb hbox hg; have hnb8 := NB133_134.out; have hnc8 := NB134_133.out; have hcz9_0 : w7.cell? ⟨gb133, 0, none⟩ = some (.int .i8 a0_0) := (blk_cell BK133.out 0).trans rfl; have hcz9_1 : w7.cell? ⟨gb133, 1, none⟩ = some (.int .i8 a0_1) := (blk_cell BK133.out 1).trans rfl; have hcz9_2 : w7.cell? ⟨gb133, 2, none⟩ = some (.int .i8 a0_2) := (blk_cell BK133.out 2).trans rfl; have hfz9_0 := blk_frozen BK133.out 0; have hfz9_1 := blk_frozen BK133.out 1; have hfz9_2 := blk_frozen BK133.out 2; have hcz10_0 : w7.cell? ⟨gb134, 0, none⟩ = some (.int .i8 a1_0) := (blk_cell BK134.out 0).trans rfl; have hcz10_1 : w7.cell? ⟨gb134, 1, none⟩ = some (.int .i8 a1_1) := (blk_cell BK134.out 1).trans rfl; have hcz10_2 : w7.cell? ⟨gb134, 2, none⟩ = some (.int .i8 a1_2) := (blk_cell BK134.out 2).trans rfl; have hfz10_0 := blk_frozen BK134.out 0; have hfz10_1 := blk_frozen BK134.out 1; have hfz10_2 := blk_frozen BK134.out 2) | ((with_reducible refine gate_callee (f := 110) rfl ?_); refine goesL_ (some 9) rfl rfl Try.func110 (by kernel_rfl) rfl #[.agg #[.int .i8 a0_0, .int .i8 a0_1], .agg #[.int .i8 a1_0, .int .i8 a1_1]] rfl (by (try simp only [List.map_toArray, List.map_cons, List.map_nil]); first | done | rfl | (simp only [List.length_drop, List.length_take]; rfl)) ?_; (with_reducible refine (laws_eqPlace.calls a0_0 a0_1 a1_0 a1_1 true _ A3.out).mono ?_); rintro e w11 ⟨rfl, hb⟩; refine ⟨_, rfl, ?_⟩; have n0_ := Aside0.mk (blk_below (g := gb133) (o := .cells #[.int .i8 a0_0, .int .i8 a0_1, .int .i8 a0_2] 90 (0, 0)) (by (with_reducible repeat (first | refine blk_drewN ?_ _ | refine blk_drew ?_ | refine blk_alloc ?_ _)); exact BK133.out) hb); have n1_ := Aside0.mk (blk_below (g := gb134) (o := .cells #[.int .i8 a1_0, .int .i8 a1_1, .int .i8 a1_2] 90 (0, 0)) (by (with_reducible repeat (first | refine blk_drewN ?_ _ | refine blk_drew ?_ | refine blk_alloc ?_ _)); exact BK134.out) hb); have n2_ := Aside0.mk (below_step (by repeat (first | (with_reducible first | exact HB.out | apply below_alloc | apply pw_below_drewN | apply below_drew1 | refine below_set ?_ GE133.out | refine below_set ?_ GE134.out) | exact HB.out)) hb); clear BK133; clear BK134; clear HB; have BK133 := n0_; have BK134 := n1_; have HB := n2_; clear n0_ n1_ n2_; (try clear hb); (try clear hb2); (try clear hk); (try clear hi); have hcz12_0 : w11.cell? ⟨gb133, 0, none⟩ = some (.int .i8 a0_0) := (blk_cell BK133.out 0).trans rfl; have hcz12_1 : w11.cell? ⟨gb133, 1, none⟩ = some (.int .i8 a0_1) := (blk_cell BK133.out 1).trans rfl; have hcz12_2 : w11.cell? ⟨gb133, 2, none⟩ = some (.int .i8 a0_2) := (blk_cell BK133.out 2).trans rfl; have hfz12_0 := blk_frozen BK133.out 0; have hfz12_1 := blk_frozen BK133.out 1; have hfz12_2 := blk_frozen BK133.out 2; have hcz13_0 : w11.cell? ⟨gb134, 0, none⟩ = some (.int .i8 a1_0) := (blk_cell BK134.out 0).trans rfl; have hcz13_1 : w11.cell? ⟨gb134, 1, none⟩ = some (.int .i8 a1_1) := (blk_cell BK134.out 1).trans rfl; have hcz13_2 : w11.cell? ⟨gb134, 2, none⟩ = some (.int .i8 a1_2) := (blk_cell BK134.out 2).trans rfl; have hfz13_0 := blk_frozen BK134.out 0; have hfz13_1 := blk_frozen BK134.out 1; have hfz13_2 := blk_frozen BK134.out 2))
      go_ret
      exact ⟨by first | rfl | (simp [errW_none, errW_some] <;> rfl) | (simp [*, errW_none, errW_some] <;> rfl), by repeat (first | (with_reducible first | exact HB.out | apply below_alloc | apply pw_below_drewN | apply below_drew1 | refine below_set ?_ GE133.out | refine below_set ?_ GE134.out) | exact HB.out)⟩
    · rw [if_neg c5] at H
      have c5b0 : (a0_2 == a1_2) = false := beq_eq_false_iff_ne.mpr c5
      have c5b1 : (a0_2 != a1_2) = true := bne_iff_ne.mpr c5
      obtain rfl := Option.some.inj H
      go_enter Try.func76, Try.ntmps76
      go_wp2_with (first | ((with_reducible refine gate_dst (N := 2) rfl ?_); refine box_event ?hg (N := 2) ?hd (cs := #[.int .i8 a0_0, .int .i8 a0_1, .int .i8 a0_2]) (t := 90) ?hr ?_; (case hd => rfl); (case hg => rfl); (case hr => first | (go_simp; done) | (go_simp; rfl)); intro gb133 hg w14 hbox hb; have n0_ := Aside0.mk (below_step (by repeat (first | (with_reducible first | exact HB.out | apply below_alloc | apply pw_below_drewN | apply below_drew1) | exact HB.out)) hb); have n1_ := Aside0.mk (hbox); have n2_ := Aside0.mk ((by rw [hg]; exact (below_size (by repeat (first | (with_reducible first | exact HB.out | apply below_alloc | apply pw_below_drewN | apply below_drew1) | exact HB.out))) : w.heap.size ≤ gb133)); have n3_ := Aside0.mk ((by rw [hg]; exact (below_size (by repeat (first | (with_reducible first | exact HB.out | apply below_alloc | apply pw_below_drewN | apply below_drew1) | exact HB.out))) : w.heap.size ≤ gb133)); clear HB; have HB := n0_; have BK133 := n1_; have GW133 := n2_; have GE133 := n3_; clear n0_ n1_ n2_ n3_; clear hb hbox hg) | ((with_reducible refine gate_dst (N := 3) rfl ?_); refine box_event ?hg (N := 3) ?hd (cs := #[.int .i8 a1_0, .int .i8 a1_1, .int .i8 a1_2]) (t := 90) ?hr ?_; (case hd => rfl); (case hg => rfl); (case hr => first | (go_simp; done) | (go_simp; rfl)); intro gb134 hg w15 hbox hb; have n0_ := Aside0.mk (blk_below (g := gb133) (o := .cells #[.int .i8 a0_0, .int .i8 a0_1, .int .i8 a0_2] 90 (0, 0)) (by (with_reducible repeat (first | refine blk_drewN ?_ _ | refine blk_drew ?_ | refine blk_alloc ?_ _)); exact BK133.out) hb); have n1_ := Aside0.mk (below_step (by repeat (first | (with_reducible first | exact HB.out | apply below_alloc | apply pw_below_drewN | apply below_drew1 | refine below_set ?_ GE133.out) | exact HB.out)) hb); have n2_ := Aside0.mk (hbox); have n3_ := Aside0.mk ((by rw [hg]; exact (below_size (by repeat (first | (with_reducible first | exact HB.out | apply below_alloc | apply pw_below_drewN | apply below_drew1 | refine below_set ?_ GE133.out) | exact HB.out))) : w.heap.size ≤ gb134)); have n4_ := Aside0.mk ((by rw [hg]; exact (below_size (by repeat (first | (with_reducible first | exact HB.out | apply below_alloc | apply pw_below_drewN | apply below_drew1 | refine below_set ?_ GE133.out) | exact HB.out))) : w.heap.size ≤ gb134)); have n5_ := Aside0.mk ((by rw [hg]; exact Nat.ne_of_lt (blk_lt (g := gb133) (o := .cells #[.int .i8 a0_0, .int .i8 a0_1, .int .i8 a0_2] 90 (0, 0)) (by (with_reducible repeat (first | refine blk_drewN ?_ _ | refine blk_drew ?_ | refine blk_alloc ?_ _)); exact BK133.out)) : gb133 ≠ gb134)); have n6_ := Aside0.mk ((by rw [hg]; exact Nat.ne_of_gt (blk_lt (g := gb133) (o := .cells #[.int .i8 a0_0, .int .i8 a0_1, .int .i8 a0_2] 90 (0, 0)) (by (with_reducible repeat (first | refine blk_drewN ?_ _ | refine blk_drew ?_ | refine blk_alloc ?_ _)); exact BK133.out)) : gb134 ≠ gb133)); clear BK133; clear HB; have BK133 := n0_; have HB := n1_; have BK134 := n2_; have GW134 := n3_; have GE134 := n4_; have NB133_134 := n5_; have NB134_133 := n6_; clear n0_ n1_ n2_ n3_ n4_ n5_ n6_; clear hb hbox hg; have hnb16 := NB133_134.out; have hnc16 := NB134_133.out; have hcz17_0 : w15.cell? ⟨gb133, 0, none⟩ = some (.int .i8 a0_0) := (blk_cell BK133.out 0).trans rfl; have hcz17_1 : w15.cell? ⟨gb133, 1, none⟩ = some (.int .i8 a0_1) := (blk_cell BK133.out 1).trans rfl; have hcz17_2 : w15.cell? ⟨gb133, 2, none⟩ = some (.int .i8 a0_2) := (blk_cell BK133.out 2).trans rfl; have hfz17_0 := blk_frozen BK133.out 0; have hfz17_1 := blk_frozen BK133.out 1; have hfz17_2 := blk_frozen BK133.out 2; have hcz18_0 : w15.cell? ⟨gb134, 0, none⟩ = some (.int .i8 a1_0) := (blk_cell BK134.out 0).trans rfl; have hcz18_1 : w15.cell? ⟨gb134, 1, none⟩ = some (.int .i8 a1_1) := (blk_cell BK134.out 1).trans rfl; have hcz18_2 : w15.cell? ⟨gb134, 2, none⟩ = some (.int .i8 a1_2) := (blk_cell BK134.out 2).trans rfl; have hfz18_0 := blk_frozen BK134.out 0; have hfz18_1 := blk_frozen BK134.out 1; have hfz18_2 := blk_frozen BK134.out 2) | ((with_reducible refine gate_callee (f := 110) rfl ?_); refine goesL_ (some 9) rfl rfl Try.func110 (by kernel_rfl) rfl #[.agg #[.int .i8 a0_0, .int .i8 a0_1], .agg #[.int .i8 a1_0, .int .i8 a1_1]] rfl (by (try simp only [List.map_toArray, List.map_cons, List.map_nil]); first | done | rfl | (simp only [List.length_drop, List.length_take]; rfl)) ?_; (with_reducible refine (laws_eqPlace.calls a0_0 a0_1 a1_0 a1_1 true _ A3.out).mono ?_); rintro e w19 ⟨rfl, hb⟩; refine ⟨_, rfl, ?_⟩; have n0_ := Aside0.mk (blk_below (g := gb133) (o := .cells #[.int .i8 a0_0, .int .i8 a0_1, .int .i8 a0_2] 90 (0, 0)) (by (with_reducible repeat (first | refine blk_drewN ?_ _ | refine blk_drew ?_ | refine blk_alloc ?_ _)); exact BK133.out) hb); have n1_ := Aside0.mk (blk_below (g := gb134) (o := .cells #[.int .i8 a1_0, .int .i8 a1_1, .int .i8 a1_2] 90 (0, 0)) (by (with_reducible repeat (first | refine blk_drewN ?_ _ | refine blk_drew ?_ | refine blk_alloc ?_ _)); exact BK134.out) hb); have n2_ := Aside0.mk (below_step (by repeat (first | (with_reducible first | exact HB.out | apply below_alloc | apply pw_below_drewN | apply below_drew1 | refine below_set ?_ GE133.out | refine below_set ?_ GE134.out) | exact HB.out)) hb); clear BK133; clear BK134; clear HB; have BK133 := n0_; have BK134 := n1_; have HB := n2_; clear n0_ n1_ n2_; (try clear hb); (try clear hb2); (try clear hk); (try clear hi); have hcz20_0 : w19.cell? ⟨gb133, 0, none⟩ = some (.int .i8 a0_0) := (blk_cell BK133.out 0).trans rfl; have hcz20_1 : w19.cell? ⟨gb133, 1, none⟩ = some (.int .i8 a0_1) := (blk_cell BK133.out 1).trans rfl; have hcz20_2 : w19.cell? ⟨gb133, 2, none⟩ = some (.int .i8 a0_2) := (blk_cell BK133.out 2).trans rfl; have hfz20_0 := blk_frozen BK133.out 0; have hfz20_1 := blk_frozen BK133.out 1; have hfz20_2 := blk_frozen BK133.out 2; have hcz21_0 : w19.cell? ⟨gb134, 0, none⟩ = some (.int .i8 a1_0) := (blk_cell BK134.out 0).trans rfl; have hcz21_1 : w19.cell? ⟨gb134, 1, none⟩ = some (.int .i8 a1_1) := (blk_cell BK134.out 1).trans rfl; have hcz21_2 : w19.cell? ⟨gb134, 2, none⟩ = some (.int .i8 a1_2) := (blk_cell BK134.out 2).trans rfl; have hfz21_0 := blk_frozen BK134.out 0; have hfz21_1 := blk_frozen BK134.out 1; have hfz21_2 := blk_frozen BK134.out 2))
      go_ret
      exact ⟨by first | rfl | (simp [errW_none, errW_some] <;> rfl) | (simp [*, errW_none, errW_some] <;> rfl), by repeat (first | (with_reducible first | exact HB.out | apply below_alloc | apply pw_below_drewN | apply below_drew1 | refine below_set ?_ GE133.out | refine below_set ?_ GE134.out) | exact HB.out)⟩
  · replace c4 := Bool.eq_false_iff.mpr c4
    subst c4
    have H1 : (some false) = some r := by rw [if_neg (show ¬ (false = true) by decide)] at H; exact H
    clear H
    have H := H1
    clear H1
    obtain rfl := Option.some.inj H
    go_enter Try.func76, Try.ntmps76
    go_wp2_with (first | ((with_reducible refine gate_dst (N := 2) rfl ?_); refine box_event ?hg (N := 2) ?hd (cs := #[.int .i8 a0_0, .int .i8 a0_1, .int .i8 a0_2]) (t := 90) ?hr ?_; (case hd => rfl); (case hg => rfl); (case hr => first | (go_simp; done) | (go_simp; rfl)); intro gb133 hg w22 hbox hb; have n0_ := Aside0.mk (below_step (by repeat (first | (with_reducible first | exact HB.out | apply below_alloc | apply pw_below_drewN | apply below_drew1) | exact HB.out)) hb); have n1_ := Aside0.mk (hbox); have n2_ := Aside0.mk ((by rw [hg]; exact (below_size (by repeat (first | (with_reducible first | exact HB.out | apply below_alloc | apply pw_below_drewN | apply below_drew1) | exact HB.out))) : w.heap.size ≤ gb133)); have n3_ := Aside0.mk ((by rw [hg]; exact (below_size (by repeat (first | (with_reducible first | exact HB.out | apply below_alloc | apply pw_below_drewN | apply below_drew1) | exact HB.out))) : w.heap.size ≤ gb133)); clear HB; have HB := n0_; have BK133 := n1_; have GW133 := n2_; have GE133 := n3_; clear n0_ n1_ n2_ n3_; clear hb hbox hg) | ((with_reducible refine gate_dst (N := 3) rfl ?_); refine box_event ?hg (N := 3) ?hd (cs := #[.int .i8 a1_0, .int .i8 a1_1, .int .i8 a1_2]) (t := 90) ?hr ?_; (case hd => rfl); (case hg => rfl); (case hr => first | (go_simp; done) | (go_simp; rfl)); intro gb134 hg w23 hbox hb; have n0_ := Aside0.mk (blk_below (g := gb133) (o := .cells #[.int .i8 a0_0, .int .i8 a0_1, .int .i8 a0_2] 90 (0, 0)) (by (with_reducible repeat (first | refine blk_drewN ?_ _ | refine blk_drew ?_ | refine blk_alloc ?_ _)); exact BK133.out) hb); have n1_ := Aside0.mk (below_step (by repeat (first | (with_reducible first | exact HB.out | apply below_alloc | apply pw_below_drewN | apply below_drew1 | refine below_set ?_ GE133.out) | exact HB.out)) hb); have n2_ := Aside0.mk (hbox); have n3_ := Aside0.mk ((by rw [hg]; exact (below_size (by repeat (first | (with_reducible first | exact HB.out | apply below_alloc | apply pw_below_drewN | apply below_drew1 | refine below_set ?_ GE133.out) | exact HB.out))) : w.heap.size ≤ gb134)); have n4_ := Aside0.mk ((by rw [hg]; exact (below_size (by repeat (first | (with_reducible first | exact HB.out | apply below_alloc | apply pw_below_drewN | apply below_drew1 | refine below_set ?_ GE133.out) | exact HB.out))) : w.heap.size ≤ gb134)); have n5_ := Aside0.mk ((by rw [hg]; exact Nat.ne_of_lt (blk_lt (g := gb133) (o := .cells #[.int .i8 a0_0, .int .i8 a0_1, .int .i8 a0_2] 90 (0, 0)) (by (with_reducible repeat (first | refine blk_drewN ?_ _ | refine blk_drew ?_ | refine blk_alloc ?_ _)); exact BK133.out)) : gb133 ≠ gb134)); have n6_ := Aside0.mk ((by rw [hg]; exact Nat.ne_of_gt (blk_lt (g := gb133) (o := .cells #[.int .i8 a0_0, .int .i8 a0_1, .int .i8 a0_2] 90 (0, 0)) (by (with_reducible repeat (first | refine blk_drewN ?_ _ | refine blk_drew ?_ | refine blk_alloc ?_ _)); exact BK133.out)) : gb134 ≠ gb133)); clear BK133; clear HB; have BK133 := n0_; have HB := n1_; have BK134 := n2_; have GW134 := n3_; have GE134 := n4_; have NB133_134 := n5_; have NB134_133 := n6_; clear n0_ n1_ n2_ n3_ n4_ n5_ n6_; clear hb hbox hg; have hnb24 := NB133_134.out; have hnc24 := NB134_133.out; have hcz25_0 : w23.cell? ⟨gb133, 0, none⟩ = some (.int .i8 a0_0) := (blk_cell BK133.out 0).trans rfl; have hcz25_1 : w23.cell? ⟨gb133, 1, none⟩ = some (.int .i8 a0_1) := (blk_cell BK133.out 1).trans rfl; have hcz25_2 : w23.cell? ⟨gb133, 2, none⟩ = some (.int .i8 a0_2) := (blk_cell BK133.out 2).trans rfl; have hfz25_0 := blk_frozen BK133.out 0; have hfz25_1 := blk_frozen BK133.out 1; have hfz25_2 := blk_frozen BK133.out 2; have hcz26_0 : w23.cell? ⟨gb134, 0, none⟩ = some (.int .i8 a1_0) := (blk_cell BK134.out 0).trans rfl; have hcz26_1 : w23.cell? ⟨gb134, 1, none⟩ = some (.int .i8 a1_1) := (blk_cell BK134.out 1).trans rfl; have hcz26_2 : w23.cell? ⟨gb134, 2, none⟩ = some (.int .i8 a1_2) := (blk_cell BK134.out 2).trans rfl; have hfz26_0 := blk_frozen BK134.out 0; have hfz26_1 := blk_frozen BK134.out 1; have hfz26_2 := blk_frozen BK134.out 2) | ((with_reducible refine gate_callee (f := 110) rfl ?_); refine goesL_ (some 9) rfl rfl Try.func110 (by kernel_rfl) rfl #[.agg #[.int .i8 a0_0, .int .i8 a0_1], .agg #[.int .i8 a1_0, .int .i8 a1_1]] rfl (by (try simp only [List.map_toArray, List.map_cons, List.map_nil]); first | done | rfl | (simp only [List.length_drop, List.length_take]; rfl)) ?_; (with_reducible refine (laws_eqPlace.calls a0_0 a0_1 a1_0 a1_1 false _ A3.out).mono ?_); rintro e w27 ⟨rfl, hb⟩; refine ⟨_, rfl, ?_⟩; have n0_ := Aside0.mk (blk_below (g := gb133) (o := .cells #[.int .i8 a0_0, .int .i8 a0_1, .int .i8 a0_2] 90 (0, 0)) (by (with_reducible repeat (first | refine blk_drewN ?_ _ | refine blk_drew ?_ | refine blk_alloc ?_ _)); exact BK133.out) hb); have n1_ := Aside0.mk (blk_below (g := gb134) (o := .cells #[.int .i8 a1_0, .int .i8 a1_1, .int .i8 a1_2] 90 (0, 0)) (by (with_reducible repeat (first | refine blk_drewN ?_ _ | refine blk_drew ?_ | refine blk_alloc ?_ _)); exact BK134.out) hb); have n2_ := Aside0.mk (below_step (by repeat (first | (with_reducible first | exact HB.out | apply below_alloc | apply pw_below_drewN | apply below_drew1 | refine below_set ?_ GE133.out | refine below_set ?_ GE134.out) | exact HB.out)) hb); clear BK133; clear BK134; clear HB; have BK133 := n0_; have BK134 := n1_; have HB := n2_; clear n0_ n1_ n2_; (try clear hb); (try clear hb2); (try clear hk); (try clear hi)))
    go_ret
    exact ⟨by first | rfl | (simp [errW_none, errW_some] <;> rfl) | (simp [*, errW_none, errW_some] <;> rfl), by repeat (first | (with_reducible first | exact HB.out | apply below_alloc | apply pw_below_drewN | apply below_drew1 | refine below_set ?_ GE133.out | refine below_set ?_ GE134.out) | exact HB.out)⟩

end Go.Proofs.Ytpimdgkofgendaa.PFnExactFewestTrips
