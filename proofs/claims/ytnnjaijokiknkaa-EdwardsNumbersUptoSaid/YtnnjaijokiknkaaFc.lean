/- The laws of layer 1 that need no powers. -/
import Derived.Test.YtnnjaijokiknkaaFb
import Derived.Test.YtnnjaijokiknkaaPwMe
namespace Go.Proofs.Ytnnjaijokiknkaa
open Go Pw Go.RowKit

end Go.Proofs.Ytnnjaijokiknkaa

