/- VersionNames answers true: it is a closed sentence on constants. No condition. -/
import Derived.Test.YtflinpnmpkdopaaPVersionNamesx1
namespace Go.Proofs.Ytflinpnmpkdopaa.Pure
open Go.RowKit Go.Proofs.Ytflinpnmpkdopaa.PVersionNames Go.Proofs.YtflinpnmpkdopaaW.PrintWords Go.Proofs.YtflinpnmpkdopaaW.PrintLast

theorem VersionNames : stratalaw07_VersionNames.Pure := by
  unfold stratalaw07_VersionNames.Pure stratalaw07_VersionNames.f stratalaw07_num.f
  rfl

end Go.Proofs.Ytflinpnmpkdopaa.Pure
