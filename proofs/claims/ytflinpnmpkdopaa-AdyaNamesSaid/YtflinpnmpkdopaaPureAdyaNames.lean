/- AdyaNames answers true: it is a closed sentence on constants. No condition. -/
import Derived.Test.YtflinpnmpkdopaaPAdyaNamesx1
namespace Go.Proofs.Ytflinpnmpkdopaa.Pure
open Go.RowKit Go.Proofs.Ytflinpnmpkdopaa.PAdyaNames Go.Proofs.YtflinpnmpkdopaaW.PrintWords Go.Proofs.YtflinpnmpkdopaaW.PrintLast

theorem AdyaNames : stratalaw14_AdyaNames.Pure := by
  unfold stratalaw14_AdyaNames.Pure stratalaw14_AdyaNames.f stratalaw14_num.f
  rfl

end Go.Proofs.Ytflinpnmpkdopaa.Pure
