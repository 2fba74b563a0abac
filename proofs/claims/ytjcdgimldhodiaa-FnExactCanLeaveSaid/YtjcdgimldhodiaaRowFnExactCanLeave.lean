/- The row of the law FnExactCanLeave: its arguments opened, the printed contract at them, the plain statement of YtjcdgimldhodiaaPureFnExactCanLeave. -/
import Derived.Test.YtjcdgimldhodiaaRows
import Derived.Test.YtjcdgimldhodiaaPFnExactCanLeavex7
import Derived.Test.YtjcdgimldhodiaaPureFnExactCanLeave
import Derived.Test.YtjcdgimldhodiaaFlat
import Derived.WalkKit
import Derived.ProofKit
import Derived.OpenShut
import Derived.ShutString
import Derived.ChangeOld
import Derived.Below
import Derived.SizedLaws
import Derived.Carry
namespace Go.Proofs.Ytjcdgimldhodiaa.fnExactCanLeave
open Go.ChangeShapes Go.WideShapes Go.ChangeAt Go.RowKit Go.Proofs.YtjcdgimldhodiaaW.PrintWords
open Go.ChangeMaps (open_string shut_string)
set_option linter.unusedVariables false
theorem own : ownKnob Try.prog.godebug = none := by kernel_rfl
theorem laidOut : laidOutB Try.prog = true := by kernel_rfl
theorem ints_i8_i8 {cs : List Value} (h : Flat.Ints [.i8, .i8] cs) : ∃ b0 b1 : Int, cs = [.int .i8 b0, .int .i8 b1] ∧ (Lit.int .i8 b0).wf = true ∧ (Lit.int .i8 b1).wf = true := by
  obtain ⟨b0, v0, rfl, hb0, h0⟩ := h.cons_inv
  obtain ⟨b1, v1, rfl, hb1, h1⟩ := h0.cons_inv
  obtain rfl := h1.nil_inv
  exact ⟨b0, b1, rfl, hb0, hb1⟩
theorem ints_i64 {cs : List Value} (h : Flat.Ints [.i64] cs) : ∃ b0 : Int, cs = [.int .i64 b0] ∧ (Lit.int .i64 b0).wf = true := by
  obtain ⟨b0, v0, rfl, hb0, h0⟩ := h.cons_inv
  obtain rfl := h0.nil_inv
  exact ⟨b0, rfl, hb0⟩
set_option maxRecDepth 100000 in
theorem lifted (os : Os) (started : os.Started) (H : Type) (enc : TypeId × Value → H) :
    ReturnsInHanded {} Try.checked os 6 .any (Rows.fnExactCanLeaveSpec.pre6 enc Try.prog Try.f6 Rows.fnExactCanLeaveRow.domain false) (Rows.fnExactCanLeaveSpec.post enc Try.prog Try.f6 false true false false) := by
  refine returnsInHanded_of_change_sized (C := Try.checked) own started (by kernel_rfl) Try.func6
    (ChangeSpec.witness6 (enc := enc) (C := Try.checked) false ⟨#[], #[.int .i64 0, .slice none 0 0, .slice none 0 0], []⟩ 8 (by kernel_rfl) (by kernel_rfl) (by kernel_rfl) (by kernel_rfl)) ?_
  intro W base args ds gs before hval0 hW hcnd hsz0 _
  have hsz : (DataW.weightsEach Try.prog (Try.f6.params.toList ++ Rows.fnExactCanLeaveSpec.plain.varTypes Try.prog) (ds ++ gs)).all (· ≤ reachBytes) = true := hsz0
  have hval : ∀ (j : Nat) t v, Try.f6.params[j]? = some t → args[j]? = some v → Value.okWide Try.prog W .any base t v := hval0
  have hW' := hW
  obtain ⟨p, q, hA0, hV, rfl, hfz, hnd⟩ := hW
  have hA : DataW.TrodAll enc Try.prog W 0 (fun _ => true) true Try.f6.params.toList args.toList ds p := hA0
  rw [Try.params6] at hA hval hsz
  obtain ⟨v0, vs0, d0, ds0, p0, q0, hargs, rfl, rfl, h0, r0⟩ := trodAll_cons hA
  obtain ⟨v1, vs1, d1, ds1, p1, q1, rfl, rfl, rfl, h1, r1⟩ := trodAll_cons r0
  obtain ⟨v2, vs2, d2, ds2, p2, q2, rfl, rfl, rfl, h2, r2⟩ := trodAll_cons r1
  obtain ⟨rfl, rfl, rfl⟩ := trodAll_nil r2
  obtain rfl : args = #[v0, v1, v2] := by cases args; simp_all
  obtain ⟨rfl, rfl⟩ := trodVars_none hV
  obtain ⟨a0, rfl, rfl, rfl, w0⟩ := open_int Try.underlying2 (hval 0 2 v0 rfl rfl) h0
  have k1 := h1
  have lt1 : ∀ x ∈ p1, x.block < W.heap.size := by obtain ⟨m, hm⟩ := k1; exact DataW.trod_lt m _ _ _ hm
  obtain ⟨A1, len1, c1, rfl⟩ := okWide_slice Try.underlying22 (hval 1 22 v1 rfl rfl)
  obtain ⟨l1, rfl, hr1, hc1, hm1, y1, ok1⟩ := Flat.open_flats (R := PFnExactCanLeave.k66.K W) (OK := fun x => (Lit.int .i8 x.f0).wf = true ∧ (Lit.int .i8 x.f1).wf = true) (ks := [.i8, .i8]) (d := 8) (c := 2) (B := 2) hsz (j := 1) (t := 22) rfl rfl Try.underlying22 (by kernel_rfl) (by kernel_rfl) rfl (by kernel_rfl) (fun cs h => by obtain ⟨b0, b1, rfl, hb0, hb1⟩ := ints_i8_i8 h; exact ⟨⟨b0, b1⟩, PFnExactCanLeave.k66_mk W ⟨b0, b1⟩, hb0, hb1⟩) h1
  have k2 := h2
  have lt2 : ∀ x ∈ p2, x.block < W.heap.size := by obtain ⟨m, hm⟩ := k2; exact DataW.trod_lt m _ _ _ hm
  obtain ⟨A2, len2, c2, rfl⟩ := okWide_slice Try.underlying24 (hval 2 24 v2 rfl rfl)
  obtain ⟨l2, rfl, hr2, hc2, hm2, y2, ok2⟩ := Flat.open_flats (R := Kd.K (Kd.int .i64) W) (OK := fun x => (Lit.int .i64 x).wf = true) (ks := [.i64]) (d := 8) (c := 1) (B := 8) hsz (j := 2) (t := 24) rfl rfl Try.underlying24 (by kernel_rfl) (by kernel_rfl) rfl (by kernel_rfl) (fun cs h => by obtain ⟨b0, rfl, hb0⟩ := ints_i64 h; exact ⟨b0, rfl, hb0⟩) h2
  clear hA0 hval0 hsz0 hsz
  obtain ⟨k, hk⟩ := Pure.FnExactCanLeave a0 l1 l2 w0 hm1 y1 ok1 hm2 y2 ok2
  refine (PFnExactCanLeave.laws_FnExactCanLeave.calls k a0 _ _ l1 _ _ l2 true W hr1 hc1 hr2 hc2 hk).mono fun e W' ⟨he, bel0⟩ => ?_
  have bel := bel0
  subst he
  exact ⟨_, rfl, _, _, _, [], _, [], hW', trodAll_mk1 (shut_bool Try.underlying4 _), (trodAll_cons_mk (shut_int Try.underlying2 w0) (trodAll_cons_mk (Below.trod laidOut (by kernel_rfl) (of_decide_eq_true (by kernel_rfl)) k1 bel lt1) (trodAll_cons_mk (Below.trod laidOut (by kernel_rfl) (of_decide_eq_true (by kernel_rfl)) k2 bel lt2) trodAll_mk0))), rfl, bel.frame _, fun h => by cases h⟩
theorem over : Rows.fnExactCanLeaveRow.holds Try.pinned (OpenSpec.ofChange Rows.fnExactCanLeaveSpec) :=
  OpenClaim.holds_of_wide 6 Try.f6 rfl rfl rfl rfl rfl rfl rfl ⟨rfl, rfl, rfl, rfl, rfl⟩ rfl rfl rfl rfl rfl (by kernel_rfl) Try.func6 (by kernel_rfl)
    (of_decide_eq_true (by kernel_rfl)) (by unfold Func.isWrapper; first | (rw [if_pos (by decide +kernel)]; kernel_rfl) | (rw [if_neg (by decide +kernel)]; exact ⟨rfl, rfl⟩))
    (fun os started H enc _ => lifted os started H enc)
theorem proved : Rows.FnExactCanLeaveSaid := over
#print axioms proved
end Go.Proofs.Ytjcdgimldhodiaa.fnExactCanLeave
namespace Go.Proofs.Ytjcdgimldhodiaa
/-- The row, under a short name, for the claim. -/
theorem fnExactCanLeave_holds : Rows.FnExactCanLeaveSaid := fnExactCanLeave.proved
end Go.Proofs.Ytjcdgimldhodiaa
