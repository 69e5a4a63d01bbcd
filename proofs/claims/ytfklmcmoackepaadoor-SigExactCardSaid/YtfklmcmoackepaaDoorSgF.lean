/- The library's lines, each looked at by the kernel. -/
import Derived.Test.YtfklmcmoackepaaDoorSgD
namespace Go.Proofs.YtfklmcmoackepaaDoor
open Go.RowKit

set_option maxHeartbeats 100000000 in
theorem lineOK15 : checkL 15 (lineText Tryd.f16 15) = true := by decide +kernel
set_option maxHeartbeats 100000000 in
theorem lineOK16 : checkL 16 (lineText Tryd.f16 16) = true := by decide +kernel
set_option maxHeartbeats 100000000 in
theorem lineOK17 : checkL 17 (lineText Tryd.f16 17) = true := by decide +kernel
end Go.Proofs.YtfklmcmoackepaaDoor
