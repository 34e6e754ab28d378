/- an argument of []mark.Deed as deeds -/
import Derived.Test.YtpnhmplinkakbaaMarkTowns
set_option linter.unusedVariables false
namespace Go.Proofs.Ytpnhmplinkakbaa
theorem fours_dd (l : List Four) : (l.map Go.Law.ddc').flatten = ddcs (l.map ddOf) := by
  unfold ddcs
  rw [List.map_map]
  rfl
end Go.Proofs.Ytpnhmplinkakbaa
