/-
  What the statements of all layers ask alike, for the lock's seats.
  Conditions: none.
-/
import Derived.Test.YtmkjfiopkmcjcaaDoorSame
namespace Go.Proofs.YtmkjfiopkmcjcaaDoor
end Go.Proofs.YtmkjfiopkmcjcaaDoor
