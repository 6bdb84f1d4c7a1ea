/- The walk of the ledger's change, against whatever closure makes an entry of an entry. -/
import Derived.Test.YtkdckcjnjljdmaaCAcC
namespace Go.Proofs.Ytkdckcjnjljdmaa.Ac
open Go Go.RowKit Kt Ad

end Go.Proofs.Ytkdckcjnjljdmaa.Ac
