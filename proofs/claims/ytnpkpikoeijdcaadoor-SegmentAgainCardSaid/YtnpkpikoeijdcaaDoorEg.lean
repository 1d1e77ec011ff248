/- SegmentAgain: of every file and at every place, what segment.Read reads is written by segment.Text as the bytes that were read: the law answers true, never panics and leaves what it was handed; the one listed variable, errors.errorType, holds what the program's text lays there. -/
import Derived.Test.YtnpkpikoeijdcaaDoorEe
import Derived.Test.YtnpkpikoeijdcaaDoorEf
namespace Go.Proofs.YtnpkpikoeijdcaaDoor
open Go
theorem segmentAgain_card : Rows.SegmentAgainCardSaid := again_card again_law
#print axioms segmentAgain_card
end Go.Proofs.YtnpkpikoeijdcaaDoor
