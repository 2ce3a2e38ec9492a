/- Two spans stand in just one of thirteen ways, and the other way round in its counterpart. -/
import Derived.Test.YtegeejglmbpecaaRelD
namespace Go.Proofs.Ytegeejglmbpecaa.Pure
theorem FnRelations : Go.Proofs.Ytegeejglmbpecaa.MFnRelations.laws_FnRelations.Pure := Go.Proofs.Ytegeejglmbpecaa.MFnRelations.FnRelations
end Go.Proofs.Ytegeejglmbpecaa.Pure
