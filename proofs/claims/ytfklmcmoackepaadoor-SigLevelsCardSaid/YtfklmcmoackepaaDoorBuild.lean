/- strings.Builder at this dump: copyCheck, WriteByte, WriteString (the translation ends copyCheck's last branch, so the library's contracts do not lie here). -/
import Derived.Test.YtfklmcmoackepaaDoorNumW
import Derived.Lib.OthersKept
namespace Go.Proofs.YtfklmcmoackepaaDoor
open Go.RowKit

abbrev tU : TypeId := 5
theorem infoByteB : (Tryd.prog.info? 5).map (fun i => (i.zero, i.size, i.bytes)) = some (some (.int .u8 0), 1, 1) := by kernel_rfl





end Go.Proofs.YtfklmcmoackepaaDoor
