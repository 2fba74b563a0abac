/- The program's CrossingsFor returns what the reference's CrossingsFor returns, for all numbers. -/
import Derived.Test.YthpfafngjlnoaaaPFnExactCrossingsForx1
namespace Go.Proofs.Ythpfafngjlnoaaa.Pure
open Go.RowKit Go.Proofs.Ythpfafngjlnoaaa.PFnExactCrossingsFor Go.Proofs.YthpfafngjlnoaaaW.PrintWords Go.Proofs.YthpfafngjlnoaaaW.PrintLast
set_option linter.unusedVariables false
set_option linter.unusedSimpArgs false

theorem crossings_small : ∀ n : Fin 41, ∀ m : Fin 13, 1 ≤ m.val → laws_FnExactCrossingsFor.f 2 ((n.val : Nat) : Int) ((m.val : Nat) : Int) = some true := by decide +kernel

theorem crossings_off (a b : Int) (h : ¬ (0 ≤ a ∧ a ≤ 40 ∧ 1 ≤ b ∧ b ≤ 12)) : spec_CrossingsFor.f 2 a b = some (0, 2) ∧ impl_CrossingsFor.f 2 a b = some (0, 2) := by
  refine ⟨?_, ?_⟩
  · unfold spec_CrossingsFor.f spec_l00In.f
    by_cases h0 : 0 ≤ a
    · rw [if_pos (show a ≥ 0 from h0)]
      simp only [Option.bind_some]
      by_cases h1 : a ≤ 40
      · rw [if_pos (by simpa using h1)]
        by_cases h2 : 1 ≤ b
        · rw [if_pos (show b ≥ 1 from h2)]
          simp only [Option.bind_some, spec_CrossingsFor.j0]
          rw [if_pos (by simp; omega)]
        · rw [if_neg (show ¬ b ≥ 1 from h2)]
          simp only [Option.bind_some, spec_CrossingsFor.j0]
          rfl
      · rw [if_neg (by simpa using h1)]
        simp only [spec_CrossingsFor.j0, if_true]
    · rw [if_neg (show ¬ a ≥ 0 from h0)]
      simp only [Option.bind_some]
      rw [if_neg (by simp)]
      simp only [spec_CrossingsFor.j0, if_true]
  · unfold impl_CrossingsFor.f
    by_cases h0 : a < 0
    · rw [if_pos h0]; simp only [impl_CrossingsFor.j0, if_true]
    · rw [if_neg h0]
      by_cases h1 : a > 40
      · rw [if_pos h1]; simp only [impl_CrossingsFor.j0, if_true]
      · rw [if_neg h1]
        by_cases h2 : b < 1
        · rw [if_pos h2]; simp only [impl_CrossingsFor.j0, if_true]
        · rw [if_neg h2]
          simp only [impl_CrossingsFor.j0]
          rw [if_pos (by simp; omega)]

theorem FnExactCrossingsFor : laws_FnExactCrossingsFor.Pure := by
  intro a b ha hb
  refine ⟨2, ?_⟩
  by_cases h : 0 ≤ a ∧ a ≤ 40 ∧ 1 ≤ b ∧ b ≤ 12
  · have := crossings_small ⟨a.toNat, by omega⟩ ⟨b.toNat, by omega⟩ (by simp; omega)
    simpa [Int.toNat_of_nonneg h.1, Int.toNat_of_nonneg (show 0 ≤ b by omega)] using this
  · obtain ⟨e1, e2⟩ := crossings_off a b h
    unfold laws_FnExactCrossingsFor.f
    rw [e1, e2]
    rfl

end Go.Proofs.Ythpfafngjlnoaaa.Pure
