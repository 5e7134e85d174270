/- slices.IndexFunc and slices.ContainsFunc over lists of numbers and of texts. (Printed by wip/genflat.py.) -/
import Derived.Test.YtaeinllbjkjhlaaDoorRows
import Derived.Test.YtaeinllbjkjhlaaDoorBase
namespace Go.Proofs.YtaeinllbjkjhlaaDoor
open Go.RowKit
end Go.Proofs.YtaeinllbjkjhlaaDoor
