/- InstBounds: what it is claimed to come to: a definition alone. -/
import Derived.Test.YtpaifgipdhgfkaaS03a
namespace Go.Proofs.YtpaifgipdhgfkaaV
open Go

def sInstBounds (_ : Int) : Option Bool := some true
end Go.Proofs.YtpaifgipdhgfkaaV
