/- The laws of layer 1 that need no powers. -/
import Derived.Test.YtnnjaijokiknkaaGreatFb
import Derived.Test.YtnnjaijokiknkaaGreatPwMe
namespace Go.Proofs.YtnnjaijokiknkaaGreat
open Go Pw Go.RowKit

end Go.Proofs.YtnnjaijokiknkaaGreat

