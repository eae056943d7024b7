/- EngineNames answers true: it is a closed sentence on constants. No condition. -/
import Derived.Test.YtflinpnmpkdopaaPEngineNamesx1
namespace Go.Proofs.Ytflinpnmpkdopaa.Pure
open Go.RowKit Go.Proofs.Ytflinpnmpkdopaa.PEngineNames Go.Proofs.YtflinpnmpkdopaaW.PrintWords Go.Proofs.YtflinpnmpkdopaaW.PrintLast

theorem EngineNames : stratalaw10_EngineNames.Pure := by
  unfold stratalaw10_EngineNames.Pure stratalaw10_EngineNames.f stratalaw10_num.f
  rfl

end Go.Proofs.Ytflinpnmpkdopaa.Pure
