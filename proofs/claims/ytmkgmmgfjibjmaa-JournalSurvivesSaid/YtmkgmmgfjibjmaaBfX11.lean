import Derived.Test.YtmkgmmgfjibjmaaBfX10
namespace Go.Bf
open Go Go.RowKit Go.Proofs Go.IntWalk
attribute [local simp] encB rowL rowW encSs encPs encD maxLen

def sect (c : UInt8) : List UInt8 := (zeroS.set 0 c).set 64 c
end Go.Bf
