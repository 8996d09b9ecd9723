/- What a law behind a door imports for its card: the kit's laws on laid variables and cards, the given rows, cards and ties. No statement of its own. -/
import Derived.LaidMore
import Derived.LaidOnce
import Derived.SevenBeyond
import Derived.SevenTiedAt
import Derived.Stop.Joined
import Derived.Test.YtoonkajdmhmdpaaDoorRows
import Derived.Test.YtoonkajdmhmdpaaDoorCards
import Derived.Test.YtoonkajdmhmdpaaDoorTie
import Derived.Test.YtoonkajdmhmdpaaDoorFrame
namespace Go.Proofs.YtoonkajdmhmdpaaDoor
end Go.Proofs.YtoonkajdmhmdpaaDoor
