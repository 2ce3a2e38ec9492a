/- No order has more in time than Moore's (Moore; Hodgson): the statement over lists, for all bytes together at most 1048576 long. -/
import Derived.Test.YtlipofjoihdbcaaMooreJ
namespace Go.Proofs.Ytlipofjoihdbcaa.Pure
theorem FnMoore : Go.Proofs.Ytlipofjoihdbcaa.MFnMoore.laws_FnMoore.Pure := Go.Proofs.Ytlipofjoihdbcaa.MFnMoore.FnMoore
end Go.Proofs.Ytlipofjoihdbcaa.Pure
