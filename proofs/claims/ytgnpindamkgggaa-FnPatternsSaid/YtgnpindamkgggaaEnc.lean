/- A byte's number as the model's value: a name for it. -/
import Derived.Test.YtgnpindamkgggaaProg
namespace Go.Proofs.YtgnpindamkgggaaRev
open Go
abbrev encB : Int → Value := fun x => Value.int .u8 x
end Go.Proofs.YtgnpindamkgggaaRev
