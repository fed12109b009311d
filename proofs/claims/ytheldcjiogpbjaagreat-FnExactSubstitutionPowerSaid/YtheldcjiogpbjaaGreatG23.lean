/- Plain: the trees of at most eight nodes, cut up: the kernel looks at all of them. First part. -/
import Derived.Test.YtheldcjiogpbjaaGreatG8
set_option maxRecDepth 100000
namespace Go.Proofs.YtheldcjiogpbjaaGreat
theorem okc_s : (List.range 6).all (fun m => (levs m).all okTree) = true := by decide +kernel
theorem okc_0 : (((levs 6).drop 0).take 20).all okTree = true := by decide +kernel
theorem okc_1 : (((levs 6).drop 20).take 40).all okTree = true := by decide +kernel
theorem okc_2 : (((levs 6).drop 60).take 72).all okTree = true := by decide +kernel
theorem okc_3 : (((levs 7).drop 0).take 16).all okTree = true := by decide +kernel
theorem okc_4 : (((levs 7).drop 16).take 22).all okTree = true := by decide +kernel
theorem okc_5 : (((levs 7).drop 38).take 18).all okTree = true := by decide +kernel
end Go.Proofs.YtheldcjiogpbjaaGreat
