/-
  Layer 43 (exchange): the walks of SameRecords, SameFiles, Same of equal things.
-/
import Derived.Test.YtmjbbpappigngaaExcPartR
namespace Go.Proofs.Ytmjbbpappigngaa
open Go.RowKit Go.Tw Go.Tw.Exc
end Go.Proofs.Ytmjbbpappigngaa
