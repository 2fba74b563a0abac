/- The row of the law FnExactFewestTrips: its arguments opened, the printed contract at them, the plain statement of YtpimdgkofgendaaPureFnExactFewestTrips. -/
import Derived.Test.YtpimdgkofgendaaRows
import Derived.Test.YtpimdgkofgendaaPFnExactFewestTripsx5
import Derived.Test.YtpimdgkofgendaaPureFnExactFewestTrips
import Derived.Test.YtpimdgkofgendaaFlat
import Derived.WalkKit
import Derived.ProofKit
import Derived.OpenShut
import Derived.ShutString
import Derived.ChangeOld
import Derived.Below
import Derived.SizedLaws
import Derived.Carry
namespace Go.Proofs.Ytpimdgkofgendaa.fnExactFewestTrips
open Go.ChangeShapes Go.WideShapes Go.ChangeAt Go.RowKit Go.Proofs.YtpimdgkofgendaaW.PrintWords
open Go.ChangeMaps (open_string shut_string)
set_option linter.unusedVariables false
theorem own : ownKnob Try.prog.godebug = none := by kernel_rfl
theorem laidOut : laidOutB Try.prog = true := by kernel_rfl
theorem ints_i8_i8_i8 {cs : List Value} (h : Flat.Ints [.i8, .i8, .i8] cs) : ∃ b0 b1 b2 : Int, cs = [.int .i8 b0, .int .i8 b1, .int .i8 b2] ∧ (Lit.int .i8 b0).wf = true ∧ (Lit.int .i8 b1).wf = true ∧ (Lit.int .i8 b2).wf = true := by
  obtain ⟨b0, v0, rfl, hb0, h0⟩ := h.cons_inv
  obtain ⟨b1, v1, rfl, hb1, h1⟩ := h0.cons_inv
  obtain ⟨b2, v2, rfl, hb2, h2⟩ := h1.cons_inv
  obtain rfl := h2.nil_inv
  exact ⟨b0, b1, b2, rfl, hb0, hb1, hb2⟩
set_option maxRecDepth 100000 in
theorem lifted (os : Os) (started : os.Started) (H : Type) (enc : TypeId × Value → H) :
    ReturnsInHanded {} Try.checked os 9 .any (Rows.fnExactFewestTripsSpec.pre6 enc Try.prog Try.f9 Rows.fnExactFewestTripsRow.domain false) (Rows.fnExactFewestTripsSpec.post enc Try.prog Try.f9 false true false false) := by
  refine returnsInHanded_of_change_sized (C := Try.checked) own started (by kernel_rfl) Try.func9
    (ChangeSpec.witness6 (enc := enc) (C := Try.checked) false ⟨#[], #[.int .i64 0, .slice none 0 0], []⟩ 8 (by kernel_rfl) (by kernel_rfl) (by kernel_rfl) (by kernel_rfl)) ?_
  intro W base args ds gs before hval0 hW hcnd hsz0 _
  have hsz : (DataW.weightsEach Try.prog (Try.f9.params.toList ++ Rows.fnExactFewestTripsSpec.plain.varTypes Try.prog) (ds ++ gs)).all (· ≤ reachBytes) = true := hsz0
  have hval : ∀ (j : Nat) t v, Try.f9.params[j]? = some t → args[j]? = some v → Value.okWide Try.prog W .any base t v := hval0
  have hW' := hW
  obtain ⟨p, q, hA0, hV, rfl, hfz, hnd⟩ := hW
  have hA : DataW.TrodAll enc Try.prog W 0 (fun _ => true) true Try.f9.params.toList args.toList ds p := hA0
  rw [Try.params9] at hA hval hsz
  obtain ⟨v0, vs0, d0, ds0, p0, q0, hargs, rfl, rfl, h0, r0⟩ := trodAll_cons hA
  obtain ⟨v1, vs1, d1, ds1, p1, q1, rfl, rfl, rfl, h1, r1⟩ := trodAll_cons r0
  obtain ⟨rfl, rfl, rfl⟩ := trodAll_nil r1
  obtain rfl : args = #[v0, v1] := by cases args; simp_all
  obtain ⟨rfl, rfl⟩ := trodVars_none hV
  obtain ⟨a0, rfl, rfl, rfl, w0⟩ := open_int Try.underlying2 (hval 0 2 v0 rfl rfl) h0
  have k1 := h1
  have lt1 : ∀ x ∈ p1, x.block < W.heap.size := by obtain ⟨m, hm⟩ := k1; exact DataW.trod_lt m _ _ _ hm
  obtain ⟨A1, len1, c1, rfl⟩ := okWide_slice Try.underlying45 (hval 1 45 v1 rfl rfl)
  obtain ⟨l1, rfl, hr1, hc1, hm1, y1, ok1⟩ := Flat.open_flats (R := PFnExactFewestTrips.k94.K W) (OK := fun x => (Lit.int .i8 x.f0.f0).wf = true ∧ (Lit.int .i8 x.f0.f1).wf = true ∧ (Lit.int .i8 x.f1).wf = true) (ks := [.i8, .i8, .i8]) (d := 8) (c := 3) (B := 3) hsz (j := 1) (t := 45) rfl rfl Try.underlying45 (by kernel_rfl) (by kernel_rfl) rfl (by kernel_rfl) (fun cs h => by obtain ⟨b0, b1, b2, rfl, hb0, hb1, hb2⟩ := ints_i8_i8_i8 h; exact ⟨⟨⟨b0, b1⟩, b2⟩, PFnExactFewestTrips.k94_mk W ⟨⟨b0, b1⟩, b2⟩, hb0, hb1, hb2⟩) h1
  clear hA0 hval0 hsz0 hsz
  obtain ⟨k, hk⟩ := Pure.FnExactFewestTrips a0 l1 w0 hm1 y1 ok1
  refine (PFnExactFewestTrips.laws_FnExactFewestTrips.calls k a0 _ _ l1 true W hr1 hc1 hk).mono fun e W' ⟨he, bel0⟩ => ?_
  have bel := bel0
  subst he
  exact ⟨_, rfl, _, _, _, [], _, [], hW', trodAll_mk1 (shut_bool Try.underlying4 _), (trodAll_cons_mk (shut_int Try.underlying2 w0) (trodAll_cons_mk (Below.trod laidOut (by kernel_rfl) (of_decide_eq_true (by kernel_rfl)) k1 bel lt1) trodAll_mk0)), rfl, bel.frame _, fun h => by cases h⟩
theorem over : Rows.fnExactFewestTripsRow.holds Try.pinned (OpenSpec.ofChange Rows.fnExactFewestTripsSpec) :=
  OpenClaim.holds_of_wide 9 Try.f9 rfl rfl rfl rfl rfl rfl rfl ⟨rfl, rfl, rfl, rfl, rfl⟩ rfl rfl rfl rfl rfl (by kernel_rfl) Try.func9 (by kernel_rfl)
    (of_decide_eq_true (by kernel_rfl)) (by unfold Func.isWrapper; first | (rw [if_pos (by decide +kernel)]; kernel_rfl) | (rw [if_neg (by decide +kernel)]; exact ⟨rfl, rfl⟩))
    (fun os started H enc _ => lifted os started H enc)
theorem proved : Rows.FnExactFewestTripsSaid := over
#print axioms proved
end Go.Proofs.Ytpimdgkofgendaa.fnExactFewestTrips
namespace Go.Proofs.Ytpimdgkofgendaa
/-- The row, under a short name, for the claim. -/
theorem fnExactFewestTrips_holds : Rows.FnExactFewestTripsSaid := fnExactFewestTrips.proved
end Go.Proofs.Ytpimdgkofgendaa
