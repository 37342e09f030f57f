/- The laws of layer 1 that need no powers. -/
import Derived.Test.YtpmbfepkdjkheaaGreatFb
import Derived.Test.YtpmbfepkdjkheaaGreatPwMe
namespace Go.Proofs.YtpmbfepkdjkheaaGreat
open Go Pw Go.RowKit

end Go.Proofs.YtpmbfepkdjkheaaGreat

