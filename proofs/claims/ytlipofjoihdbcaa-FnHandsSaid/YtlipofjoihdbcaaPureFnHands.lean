/- Work of at least one chore given in order takes less than twice as long as it must, and from the longest on four thirds at most: the statement over lists, for all bytes together at most 1048576 long. -/
import Derived.Test.YtlipofjoihdbcaaHandsN
namespace Go.Proofs.Ytlipofjoihdbcaa.Pure
theorem FnHands : Go.Proofs.Ytlipofjoihdbcaa.MFnHands.laws_FnHands.Pure := Go.Proofs.Ytlipofjoihdbcaa.MFnHands.FnHands
end Go.Proofs.Ytlipofjoihdbcaa.Pure
