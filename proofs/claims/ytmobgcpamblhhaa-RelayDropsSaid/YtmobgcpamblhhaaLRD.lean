/- RelayDrops: for every input the law returns true, and the input reads as it did. Conditions: none beyond the row's own. -/
import Derived.Test.YtmobgcpamblhhaaRowRD
import Derived.Test.YtmobgcpamblhhaaP6
import Derived.Test.YtmobgcpamblhhaaTyPt
namespace Go.Proofs.Ytmobgcpamblhhaa
open Go.Vi
theorem relayDrops_holds : Rows.RelayDropsSaid := by
  refine relayDrops.row F3 f3_ok.2 fun x0 x1 x2 h0 h1 h2 => ?_
  obtain ⟨l, rfl, hl⟩ := tya_acts h0
  obtain ⟨m, rfl⟩ := tya_int h1
  obtain ⟨p, rfl⟩ := tya_pt h2
  have : l.length < 2 ^ 62 := by omega
  simp
  omega
#print axioms relayDrops_holds
end Go.Proofs.Ytmobgcpamblhhaa
