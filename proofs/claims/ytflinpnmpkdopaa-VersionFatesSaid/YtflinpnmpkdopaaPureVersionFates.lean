/- VersionFates answers true: the tables are right whatever becomes of the other transaction, at every state, end, timestamp and later end. No condition. -/
import Derived.Test.YtflinpnmpkdopaaPVersionFatesx1
namespace Go.Proofs.Ytflinpnmpkdopaa.Pure
open Go.RowKit Go.Proofs.Ytflinpnmpkdopaa.PVersionFates Go.Proofs.YtflinpnmpkdopaaW.PrintWords Go.Proofs.YtflinpnmpkdopaaW.PrintLast

theorem VersionFates : stratalaw07_VersionFates.Pure := by
  intro s e t l _ _ _ _
  refine ⟨1, ?_⟩
  unfold stratalaw07_VersionFates.f version_JudgeBegin.f version_JudgeEnd.f
  simp only [stratalaw07_VersionFates.j0, stratalaw07_fate.f]
  by_cases h1 : s = 1
  · subst h1
    by_cases hl : l ≤ t <;> simp [hl]
  by_cases h2 : s = 2
  · subst h2
    by_cases he : e = 0
    · subst he; simp
    · by_cases hl : e ≤ t <;> simp [he, hl]
  by_cases h3 : s = 3
  · subst h3
    by_cases hl : e ≤ t <;> simp [hl]
  by_cases h4 : s = 4
  · subst h4; simp
  by_cases h5 : s = 5
  · subst h5; simp
  simp [h1, h2, h3, h4, h5]

end Go.Proofs.Ytflinpnmpkdopaa.Pure
