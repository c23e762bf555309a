/- rescriptref04: Bytes: contract. -/
import Derived.Test.YtcibhkiddeggmaaInr
namespace Go.Proofs.Ytcibhkiddeggmaa
open Go Go.RowKit Go.Shelf
attribute [local go_sem] Oper.semAt_some
variable {K : Value → Prop}

end Go.Proofs.Ytcibhkiddeggmaa
