/- SweepNames answers true: it is a closed sentence on constants. No condition. -/
import Derived.Test.YtflinpnmpkdopaaPSweepNamesx1
namespace Go.Proofs.Ytflinpnmpkdopaa.Pure
open Go.RowKit Go.Proofs.Ytflinpnmpkdopaa.PSweepNames Go.Proofs.YtflinpnmpkdopaaW.PrintWords Go.Proofs.YtflinpnmpkdopaaW.PrintLast

theorem SweepNames : stratalaw08_SweepNames.Pure := by
  unfold stratalaw08_SweepNames.Pure stratalaw08_SweepNames.f stratalaw08_num.f
  rfl

end Go.Proofs.Ytflinpnmpkdopaa.Pure
