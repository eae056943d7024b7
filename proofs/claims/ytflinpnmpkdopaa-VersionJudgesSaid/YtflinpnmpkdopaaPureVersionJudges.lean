/- VersionJudges answers true: both tables of the program are the document's, at every own, state, end and timestamp. No condition. -/
import Derived.Test.YtflinpnmpkdopaaPVersionJudgesx1
namespace Go.Proofs.Ytflinpnmpkdopaa.Pure
open Go.RowKit Go.Proofs.Ytflinpnmpkdopaa.PVersionJudges Go.Proofs.YtflinpnmpkdopaaW.PrintWords Go.Proofs.YtflinpnmpkdopaaW.PrintLast

theorem VersionJudges : stratalaw07_VersionJudges.Pure := by
  intro own s e t _ _ _
  refine ⟨1, ?_⟩
  unfold stratalaw07_VersionJudges.f version_JudgeBegin.f version_JudgeEnd.f strataref07_JudgeBegin.f strataref07_JudgeEnd.f
  simp only [strataref07_JudgeEnd.j0]
  cases own
  · by_cases h1 : s = 1
    · subst h1; simp
    by_cases h2 : s = 2
    · subst h2
      by_cases he : e = 0
      · subst he; simp
      · by_cases hl : e ≤ t
        · have : ¬ e > t := by omega
          simp [he, hl, this]
        · have : e > t := by omega
          simp [he, hl, this]
    by_cases h3 : s = 3
    · subst h3
      by_cases hl : e ≤ t
      · have : ¬ e > t := by omega
        simp [hl, this]
      · have : e > t := by omega
        simp [hl, this]
    by_cases h4 : s = 4
    · subst h4; simp
    by_cases h5 : s = 5
    · subst h5; simp
    simp [h1, h2, h3, h4, h5]
  · simp

end Go.Proofs.Ytflinpnmpkdopaa.Pure
