/- The model of package text: the check of an edit. -/
import Derived.Test.YtmofakcpldbbmaaDoorTxtD
namespace Go.Proofs.YtmofakcpldbbmaaDoor
open Go.RowKit

end Go.Proofs.YtmofakcpldbbmaaDoor
