/- Bytes joined. -/
import Derived.Test.YtijbmapeechcpaaWa
import Derived.Test.YtijbmapeechcpaaVw
namespace Go.Proofs.Ytijbmapeechcpaa.V
open Go Go.RowKit
set_option maxRecDepth 100000
set_option maxHeartbeats 4000000
set_option linter.unusedSimpArgs false
set_option linter.unusedVariables false
set_option pp.deepTerms false
set_option pp.deepTerms.threshold 3

end Go.Proofs.Ytijbmapeechcpaa.V
