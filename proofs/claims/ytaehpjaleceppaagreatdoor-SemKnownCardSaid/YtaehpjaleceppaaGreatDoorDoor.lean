/- What a law behind a door imports for its card: the kit's laws on laid variables and cards, the given rows, cards and ties. No statement of its own. -/
import Derived.LaidMore
import Derived.LaidOnce
import Derived.SevenBeyond
import Derived.SevenTiedAt
import Derived.Stop.Joined
import Derived.Test.YtaehpjaleceppaaGreatDoorRows
import Derived.Test.YtaehpjaleceppaaGreatDoorCards
import Derived.Test.YtaehpjaleceppaaGreatDoorTie
import Derived.Test.YtaehpjaleceppaaGreatDoorFrame
namespace Go.Proofs.YtaehpjaleceppaaGreatDoor
end Go.Proofs.YtaehpjaleceppaaGreatDoor
