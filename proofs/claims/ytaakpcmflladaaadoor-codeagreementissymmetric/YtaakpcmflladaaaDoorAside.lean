/- A fact that the walk does not look into. -/
import Derived.WalkKit
set_option linter.all false
namespace Go.Proofs.YtaakpcmflladaaaDoor
structure Aside (p : Prop) : Prop where mk :: (out : p)
end Go.Proofs.YtaakpcmflladaaaDoor
