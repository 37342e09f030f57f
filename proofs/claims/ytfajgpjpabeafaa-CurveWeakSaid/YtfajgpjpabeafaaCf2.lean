/- CurveWeak: the contexts. -/
import Derived.Test.YtfajgpjpabeafaaCe2
import Derived.Test.YtfajgpjpabeafaaCy
import Derived.Test.YtfajgpjpabeafaaPwWeak
namespace Go.Proofs.Ytfajgpjpabeafaa
open Go Pw Go.RowKit
noncomputable abbrev XV2 (o : FOps) : Cx := { X_weakL o with O := addQ (addQ (X_weakL o).O 14 (lav (g_vecL o))) 76 (lav (g_sharedP o)) }
theorem XV2_ok : CxOK Try.prog (XV2 concFOps) := { X_weakL_ok with quiet := addQ_ok (addQ_ok X_weakL_ok.quiet vecL_at) sharedP_at }
end Go.Proofs.Ytfajgpjpabeafaa

