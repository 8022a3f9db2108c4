/-
  (of LotH, without lots.)
-/
import Derived.Test.YtmkbbfcecolobaaLotE
import Derived.Laws.CopyOwn
namespace Go.Proofs.Ytmkbbfcecolobaa
open Go.RowKit
set_option linter.unusedSimpArgs false

end Go.Proofs.Ytmkbbfcecolobaa
