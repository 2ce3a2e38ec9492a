/- No order of tasks has a lesser greatest lateness than the one by their ends (Jackson); the program's functions on the tasks drawn from any bytes answer as the reference's. -/
import Derived.Test.YtbbjpgdoekfnhaaLateG
namespace Go.Proofs.Ytbbjpgdoekfnhaa.Pure
theorem FnLateness : Go.Proofs.Ytbbjpgdoekfnhaa.MFnLateness.laws_FnLateness.Pure := Go.Proofs.Ytbbjpgdoekfnhaa.MFnLateness.FnLateness
end Go.Proofs.Ytbbjpgdoekfnhaa.Pure
