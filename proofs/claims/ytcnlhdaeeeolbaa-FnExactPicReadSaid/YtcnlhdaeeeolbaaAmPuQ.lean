/- Images: how both packages write lists. Conditions: none. -/
import Derived.Test.YtcnlhdaeeeolbaaAmPuP
set_option linter.unusedSimpArgs false
set_option linter.unusedVariables false
namespace Go.AM
open Go
theorem wro_zero {i : Inst} (h : wro i = 0) : 1 ≤ i.Code ∧ i.Code ≤ 11 ∧ (isHas i.Code = false → i.One_Op = 0 ∧ i.One_Args = []) ∧ (isHas i.Code = true → known i.Code i.One_Op = true ∧ (i.One_Args.length : Int) = ar i.One_Op ∧ i.One_Args.all argOk = true) := by
  unfold wro at h
  split at h
  · cases h
  · rename_i h1
    split at h
    · rename_i h2
      split at h
      · cases h
      · rename_i h3
        refine ⟨by omega, by omega, fun _ => ⟨by omega, List.eq_nil_of_length_eq_zero (by omega)⟩, fun e => (by rw [h2] at e; cases e)⟩
    · rename_i h2
      split at h
      · cases h
      · rename_i h3
        split at h
        · rename_i h4
          refine ⟨by omega, by omega, fun e => absurd e h2, fun _ => ⟨by simpa using fun e => h3 (.inl e), by
            rcases Decidable.em ((i.One_Args.length : Int) = ar i.One_Op) with q | q
            · exact q
            · exact absurd (.inr q) h3, h4⟩⟩
        · cases h
end Go.AM
