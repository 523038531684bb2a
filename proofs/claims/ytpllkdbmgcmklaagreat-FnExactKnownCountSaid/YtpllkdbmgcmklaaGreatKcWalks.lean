/- A part of the proof of FnExactKnownCountSaid. -/
import Derived.Test.YtpllkdbmgcmklaaGreatKcWalksB
namespace Go.Proofs.YtpllkdbmgcmklaaGreat
open Go Go.Wk Go.RowKit
set_option maxRecDepth 4000
set_option maxHeartbeats 4000000

open Tryz
end Go.Proofs.YtpllkdbmgcmklaaGreat
