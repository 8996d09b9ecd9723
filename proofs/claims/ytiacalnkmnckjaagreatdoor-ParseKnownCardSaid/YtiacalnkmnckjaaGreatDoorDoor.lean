/- What a law behind a door imports for its card: the kit's laws on laid variables and cards, the given rows, cards and ties. No statement of its own. -/
import Derived.LaidMore
import Derived.LaidOnce
import Derived.SevenBeyond
import Derived.SevenTiedAt
import Derived.Stop.Joined
import Derived.Test.YtiacalnkmnckjaaGreatDoorRows
import Derived.Test.YtiacalnkmnckjaaGreatDoorCards
import Derived.Test.YtiacalnkmnckjaaGreatDoorTie
import Derived.Test.YtiacalnkmnckjaaGreatDoorFrame
namespace Go.Proofs.YtiacalnkmnckjaaGreatDoor
end Go.Proofs.YtiacalnkmnckjaaGreatDoor
