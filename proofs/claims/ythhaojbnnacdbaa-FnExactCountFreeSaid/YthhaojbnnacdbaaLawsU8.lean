/- The laws CountFree, walked: each returns true. No condition. -/
import Derived.Test.YthhaojbnnacdbaaArgs
import Derived.Test.YthhaojbnnacdbaaLawC
import Derived.Test.YthhaojbnnacdbaaMark
import Derived.Test.YthhaojbnnacdbaaFirstS
namespace Go.Proofs.Ythhaojbnnacdbaa
open Go.RowKit
set_option linter.unusedVariables false

set_option maxHeartbeats 1000000 in
theorem walkFnExactCountFree (W : World) (x0 : Int) (hx0 : (Lit.int .i64 x0).wf = true) : Calls Try.prog 11 #[.int .i64 x0] W fun e w' => e = .returned (.bool true) ∧ Below W.heap.size W w' := by
  go_enter Try.func11, Try.ntmps11
  go_wp2_with fail
  refine (specCountFree _ _ hx0).mono ?_
  rintro e w1 ⟨rfl, k1⟩
  have K1 := k1
  go_wp2_with fail
  refine (implCountFree _ _ hx0).mono ?_
  rintro e w2 ⟨rfl, k2⟩
  have K2 := K1.trans (k2.mono K1.size)
  go_wp2
  go_ret
  exact ⟨rfl, K2⟩

end Go.Proofs.Ythhaojbnnacdbaa
