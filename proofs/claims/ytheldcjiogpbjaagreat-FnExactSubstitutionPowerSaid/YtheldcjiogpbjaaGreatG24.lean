/- Plain: the trees of at most eight nodes, cut up: the kernel looks at all of them. Second part. -/
import Derived.Test.YtheldcjiogpbjaaGreatG8
set_option maxRecDepth 100000
namespace Go.Proofs.YtheldcjiogpbjaaGreat
theorem okc_6 : (((levs 7).drop 56).take 16).all okTree = true := by decide +kernel
theorem okc_7 : (((levs 7).drop 72).take 44).all okTree = true := by decide +kernel
theorem okc_8 : (((levs 7).drop 116).take 30).all okTree = true := by decide +kernel
theorem okc_9 : (((levs 7).drop 146).take 92).all okTree = true := by decide +kernel
theorem okc_10 : (((levs 7).drop 238).take 191).all okTree = true := by decide +kernel
end Go.Proofs.YtheldcjiogpbjaaGreat
