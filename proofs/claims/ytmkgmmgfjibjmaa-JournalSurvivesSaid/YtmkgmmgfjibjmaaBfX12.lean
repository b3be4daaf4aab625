import Derived.Test.YtmkgmmgfjibjmaaBfX11
namespace Go.Bf
open Go Go.RowKit Go.Proofs Go.IntWalk
attribute [local simp] encB rowL rowW encSs encPs encD maxLen

end Go.Bf
