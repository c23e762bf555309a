/- rescriptref04: contracts. -/
import Derived.Test.YtcibhkiddeggmaaInt
import Derived.RegionTactic
import Derived.StillTailTactics
namespace Go.Proofs.Ytcibhkiddeggmaa
open Go Go.RowKit Go.Shelf
attribute [local go_sem] Oper.semAt_some
variable {K : Value → Prop}






theorem fr_int {w : World} {p : Nat} (_hp : p < w.heap.size) {w' : World} (hf : Fr (fun x => x = p) (w.alloc (.cells #[.int .i64 0, .int .i64 0] 47)) w') : Fr (fun x => x = p) w w' := Fr.trans (Fr.of_grew (grew_alloc _ _)) hf

end Go.Proofs.Ytcibhkiddeggmaa
