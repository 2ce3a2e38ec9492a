/- Where some order has all tasks in time the one by how often they come has, and then there is no more load than one; on the whole statement, for all bytes drawn from. -/
import Derived.Test.YtbbjpgdoekfnhaaRatesG
namespace Go.Proofs.Ytbbjpgdoekfnhaa.Pure
theorem FnRates : Go.Proofs.Ytbbjpgdoekfnhaa.MFnRates.laws_FnRates.Pure := Go.Proofs.Ytbbjpgdoekfnhaa.MFnRates.FnRates
end Go.Proofs.Ytbbjpgdoekfnhaa.Pure
