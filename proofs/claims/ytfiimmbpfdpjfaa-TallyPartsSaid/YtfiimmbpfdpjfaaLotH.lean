/-
  (of LotH, without lots.)
-/
import Derived.Test.YtfiimmbpfdpjfaaLotE
import Derived.Laws.CopyOwn
namespace Go.Proofs.Ytfiimmbpfdpjfaa
open Go.RowKit
set_option linter.unusedSimpArgs false

end Go.Proofs.Ytfiimmbpfdpjfaa
