/- Contract of the laws' helper valueFor, to every depth. -/
import Derived.Test.YtoddjdajjmcliaaShVf
set_option linter.unusedVariables false
namespace Go.Proofs.Ytoddjdajjmcliaa
open Go.RowKit Go.Mem Go.Sh Go.Maps Go.Val
theorem val_all : ∀ f, ValTo f
  | 0 => fun _ _ _ _ _ _ _ _ _ _ _ _ _ _ _ _ _ _ hv => by cases hv
  | f + 1 => val_succ f (val_all f)
end Go.Proofs.Ytoddjdajjmcliaa
