/- The exponentials of maps as polynomials in their values, by places: PTab all powers of the action on the unit together, ETab the exponential. (printed by expgen.py) No walk. | Plain: the exponential of an infinitesimal map by powers of its action is the table's polynomial; the exponential of the opposite map is the inverse; kernel checks. No walk. | Plain: the exponential at a tree is the value there and what smaller trees give; it is told by that, goes with scaling, and convolution goes with scaling; kernel checks. No walk. | Which free number, with which sign, a Hamiltonian map has at each place (0: none), and the chain of conditions that tells it. (printed by hamgen.py) No walk. | Walks: isEvenRoot of the program, l12Sign of the reference. -/
import Derived.Test.YtdjhfeaimmpmhaaGreatZh29
import Derived.Test.YtdjhfeaimmpmhaaGreatZh20
import Derived.Test.YtdjhfeaimmpmhaaGreatZh11
import Derived.Test.YtdjhfeaimmpmhaaGreatZh27
set_option maxRecDepth 100000
namespace Go.Proofs.YtdjhfeaimmpmhaaGreat

def PTab : List Pol := [
  [([], 1)],
  [([1], 1)],
  [([1, 1], 1), ([2], 1)],
  [([1, 1, 1], 1), ([1, 2], 2), ([3], 1)],
  [([1, 1, 1], 2), ([1, 2], 2), ([4], 1)],
  [([1, 1, 1, 1], 1), ([1, 1, 2], 3), ([1, 3], 2), ([2, 2], 1), ([5], 1)],
  [([1, 1, 1, 1], 2), ([1, 1, 2], 4), ([1, 3], 2), ([1, 4], 1), ([6], 1)],
  [([1, 1, 1, 1], 3), ([1, 1, 2], 5), ([1, 3], 1), ([1, 4], 1), ([2, 2], 1), ([7], 1)],
  [([1, 1, 1, 1], 6), ([1, 1, 2], 6), ([1, 4], 3), ([8], 1)],
  [([1, 1, 1, 1, 1], 1), ([1, 1, 1, 2], 4), ([1, 1, 3], 3), ([1, 2, 2], 3), ([1, 5], 2), ([2, 3], 2), ([9], 1)],
  [([1, 1, 1, 1, 1], 2), ([1, 1, 1, 2], 6), ([1, 1, 3], 4), ([1, 1, 4], 1), ([1, 2, 2], 2), ([1, 5], 2), ([1, 6], 1), ([2, 4], 1), ([10], 1)],
  [([1, 1, 1, 1, 1], 3), ([1, 1, 1, 2], 8), ([1, 1, 3], 4), ([1, 1, 4], 1), ([1, 2, 2], 3), ([1, 5], 1), ([1, 6], 1), ([1, 7], 1), ([2, 3], 1), ([11], 1)],
  [([1, 1, 1, 1, 1], 4), ([1, 1, 1, 2], 10), ([1, 1, 3], 4), ([1, 1, 4], 1), ([1, 2, 2], 4), ([1, 5], 1), ([1, 7], 1), ([2, 3], 1), ([2, 4], 1), ([12], 1)],
  [([1, 1, 1, 1, 1], 6), ([1, 1, 1, 2], 12), ([1, 1, 3], 6), ([1, 1, 4], 3), ([1, 6], 3), ([1, 8], 1), ([13], 1)],
  [([1, 1, 1, 1, 1], 8), ([1, 1, 1, 2], 14), ([1, 1, 3], 4), ([1, 1, 4], 4), ([1, 2, 2], 2), ([1, 6], 1), ([1, 7], 2), ([2, 4], 1), ([14], 1)],
  [([1, 1, 1, 1, 1], 6), ([1, 1, 1, 2], 12), ([1, 1, 3], 2), ([1, 1, 4], 2), ([1, 2, 2], 6), ([1, 7], 2), ([2, 3], 2), ([15], 1)],
  [([1, 1, 1, 1, 1], 12), ([1, 1, 1, 2], 18), ([1, 1, 3], 2), ([1, 1, 4], 5), ([1, 2, 2], 4), ([1, 7], 2), ([1, 8], 1), ([2, 4], 1), ([16], 1)],
  [([1, 1, 1, 1, 1], 24), ([1, 1, 1, 2], 24), ([1, 1, 4], 12), ([1, 8], 4), ([17], 1)],
  [([1, 1, 1, 1, 1, 1], 1), ([1, 1, 1, 1, 2], 5), ([1, 1, 1, 3], 4), ([1, 1, 2, 2], 6), ([1, 1, 5], 3), ([1, 2, 3], 6), ([1, 9], 2), ([2, 2, 2], 1), ([2, 5], 2), ([3, 3], 1), ([18], 1)],
  [([1, 1, 1, 1, 1, 1], 2), ([1, 1, 1, 1, 2], 8), ([1, 1, 1, 3], 6), ([1, 1, 1, 4], 1), ([1, 1, 2, 2], 6), ([1, 1, 5], 4), ([1, 1, 6], 1), ([1, 2, 3], 4), ([1, 2, 4], 2), ([1, 9], 2), ([1, 10], 1), ([2, 6], 1), ([3, 4], 1), ([19], 1)],
  [([1, 1, 1, 1, 1, 1], 3), ([1, 1, 1, 1, 2], 11), ([1, 1, 1, 3], 7), ([1, 1, 1, 4], 1), ([1, 1, 2, 2], 8), ([1, 1, 5], 4), ([1, 1, 6], 1), ([1, 1, 7], 1), ([1, 2, 3], 4), ([1, 2, 4], 1), ([1, 9], 1), ([1, 10], 1), ([1, 11], 1), ([2, 2, 2], 1), ([2, 5], 1), ([2, 7], 1), ([20], 1)],
  [([1, 1, 1, 1, 1, 1], 4), ([1, 1, 1, 1, 2], 14), ([1, 1, 1, 3], 8), ([1, 1, 1, 4], 1), ([1, 1, 2, 2], 10), ([1, 1, 5], 3), ([1, 1, 6], 1), ([1, 1, 7], 1), ([1, 2, 3], 7), ([1, 2, 4], 1), ([1, 9], 1), ([1, 11], 1), ([1, 12], 1), ([2, 6], 1), ([3, 3], 1), ([21], 1)],
  [([1, 1, 1, 1, 1, 1], 5), ([1, 1, 1, 1, 2], 17), ([1, 1, 1, 3], 9), ([1, 1, 1, 4], 1), ([1, 1, 2, 2], 12), ([1, 1, 5], 4), ([1, 1, 7], 1), ([1, 2, 3], 6), ([1, 2, 4], 2), ([1, 9], 1), ([1, 12], 1), ([2, 2, 2], 1), ([2, 5], 1), ([2, 7], 1), ([3, 4], 1), ([22], 1)],
  [([1, 1, 1, 1, 1, 1], 6), ([1, 1, 1, 1, 2], 18), ([1, 1, 1, 3], 12), ([1, 1, 1, 4], 3), ([1, 1, 2, 2], 6), ([1, 1, 5], 6), ([1, 1, 6], 3), ([1, 1, 8], 1), ([1, 2, 4], 3), ([1, 10], 3), ([1, 13], 1), ([2, 8], 1), ([23], 1)],
  [([1, 1, 1, 1, 1, 1], 8), ([1, 1, 1, 1, 2], 22), ([1, 1, 1, 3], 12), ([1, 1, 1, 4], 4), ([1, 1, 2, 2], 8), ([1, 1, 5], 4), ([1, 1, 6], 3), ([1, 1, 7], 2), ([1, 2, 3], 2), ([1, 2, 4], 3), ([1, 10], 1), ([1, 11], 2), ([1, 14], 1), ([3, 4], 1), ([24], 1)],
  [([1, 1, 1, 1, 1, 1], 10), ([1, 1, 1, 1, 2], 26), ([1, 1, 1, 3], 12), ([1, 1, 1, 4], 5), ([1, 1, 2, 2], 10), ([1, 1, 5], 4), ([1, 1, 6], 2), ([1, 1, 7], 2), ([1, 2, 3], 2), ([1, 2, 4], 5), ([1, 10], 1), ([1, 12], 2), ([2, 6], 1), ([4, 4], 1), ([25], 1)],
  [([1, 1, 1, 1, 1, 1], 6), ([1, 1, 1, 1, 2], 18), ([1, 1, 1, 3], 8), ([1, 1, 1, 4], 2), ([1, 1, 2, 2], 12), ([1, 1, 5], 2), ([1, 1, 6], 2), ([1, 1, 7], 2), ([1, 2, 3], 6), ([1, 11], 2), ([1, 15], 1), ([2, 2, 2], 2), ([2, 5], 2), ([26], 1)],
  [([1, 1, 1, 1, 1, 1], 12), ([1, 1, 1, 1, 2], 30), ([1, 1, 1, 3], 14), ([1, 1, 1, 4], 5), ([1, 1, 2, 2], 10), ([1, 1, 5], 2), ([1, 1, 6], 5), ([1, 1, 7], 2), ([1, 1, 8], 1), ([1, 2, 3], 4), ([1, 2, 4], 1), ([1, 11], 2), ([1, 13], 1), ([1, 16], 1), ([2, 6], 1), ([27], 1)],
  [([1, 1, 1, 1, 1, 1], 15), ([1, 1, 1, 1, 2], 35), ([1, 1, 1, 3], 12), ([1, 1, 1, 4], 6), ([1, 1, 2, 2], 14), ([1, 1, 5], 2), ([1, 1, 6], 2), ([1, 1, 7], 5), ([1, 2, 3], 3), ([1, 2, 4], 3), ([1, 11], 1), ([1, 12], 1), ([1, 14], 1), ([2, 2, 2], 1), ([2, 7], 2), ([28], 1)],
  [([1, 1, 1, 1, 1, 1], 10), ([1, 1, 1, 1, 2], 26), ([1, 1, 1, 3], 7), ([1, 1, 1, 4], 3), ([1, 1, 2, 2], 18), ([1, 1, 5], 1), ([1, 1, 7], 3), ([1, 2, 3], 8), ([1, 2, 4], 2), ([1, 12], 1), ([1, 15], 1), ([2, 2, 2], 2), ([2, 5], 1), ([2, 7], 1), ([3, 3], 1), ([29], 1)],
  [([1, 1, 1, 1, 1, 1], 20), ([1, 1, 1, 1, 2], 44), ([1, 1, 1, 3], 12), ([1, 1, 1, 4], 7), ([1, 1, 2, 2], 18), ([1, 1, 5], 2), ([1, 1, 7], 4), ([1, 1, 8], 1), ([1, 2, 3], 4), ([1, 2, 4], 6), ([1, 12], 2), ([1, 16], 1), ([2, 8], 1), ([3, 4], 1), ([30], 1)],
  [([1, 1, 1, 1, 1, 1], 24), ([1, 1, 1, 1, 2], 48), ([1, 1, 1, 3], 24), ([1, 1, 1, 4], 12), ([1, 1, 6], 12), ([1, 1, 8], 4), ([1, 13], 4), ([1, 17], 1), ([31], 1)],
  [([1, 1, 1, 1, 1, 1], 30), ([1, 1, 1, 1, 2], 54), ([1, 1, 1, 3], 18), ([1, 1, 1, 4], 15), ([1, 1, 2, 2], 6), ([1, 1, 6], 6), ([1, 1, 7], 6), ([1, 1, 8], 2), ([1, 2, 4], 3), ([1, 13], 1), ([1, 14], 3), ([2, 8], 1), ([32], 1)],
  [([1, 1, 1, 1, 1, 1], 20), ([1, 1, 1, 1, 2], 40), ([1, 1, 1, 3], 8), ([1, 1, 1, 4], 9), ([1, 1, 2, 2], 18), ([1, 1, 6], 1), ([1, 1, 7], 6), ([1, 2, 3], 6), ([1, 2, 4], 4), ([1, 14], 1), ([1, 15], 2), ([2, 6], 1), ([3, 4], 1), ([33], 1)],
  [([1, 1, 1, 1, 1, 1], 40), ([1, 1, 1, 1, 2], 64), ([1, 1, 1, 3], 12), ([1, 1, 1, 4], 20), ([1, 1, 2, 2], 12), ([1, 1, 6], 2), ([1, 1, 7], 8), ([1, 1, 8], 2), ([1, 2, 4], 6), ([1, 14], 2), ([1, 16], 2), ([4, 4], 1), ([34], 1)],
  [([1, 1, 1, 1, 1, 1], 30), ([1, 1, 1, 1, 2], 54), ([1, 1, 1, 3], 6), ([1, 1, 1, 4], 12), ([1, 1, 2, 2], 24), ([1, 1, 7], 6), ([1, 1, 8], 2), ([1, 2, 3], 4), ([1, 2, 4], 4), ([1, 15], 1), ([1, 16], 2), ([2, 2, 2], 2), ([2, 7], 2), ([35], 1)],
  [([1, 1, 1, 1, 1, 1], 60), ([1, 1, 1, 1, 2], 84), ([1, 1, 1, 3], 6), ([1, 1, 1, 4], 27), ([1, 1, 2, 2], 18), ([1, 1, 7], 6), ([1, 1, 8], 7), ([1, 2, 4], 6), ([1, 16], 3), ([1, 17], 1), ([2, 8], 1), ([36], 1)],
  [([1, 1, 1, 1, 1, 1], 120), ([1, 1, 1, 1, 2], 120), ([1, 1, 1, 4], 60), ([1, 1, 8], 20), ([1, 17], 5), ([37], 1)]]
def ETab : List Pol := [
  [([], 1)],
  [([1], 1)],
  [([1, 1], 5004), ([2], 1)],
  [([1, 1, 1], 1668), ([1, 2], 1), ([3], 1)],
  [([1, 1, 1], 3336), ([1, 2], 1), ([4], 1)],
  [([1, 1, 1, 1], 417), ([1, 1, 2], 5004), ([1, 3], 1), ([2, 2], 5004), ([5], 1)],
  [([1, 1, 1, 1], 834), ([1, 1, 2], 6672), ([1, 3], 1), ([1, 4], 5004), ([6], 1)],
  [([1, 1, 1, 1], 1251), ([1, 1, 2], 8340), ([1, 3], 5004), ([1, 4], 5004), ([2, 2], 5004), ([7], 1)],
  [([1, 1, 1, 1], 2502), ([1, 1, 2], 1), ([1, 4], 5005), ([8], 1)],
  [([1, 1, 1, 1, 1], 8089), ([1, 1, 1, 2], 1668), ([1, 1, 3], 5004), ([1, 2, 2], 5004), ([1, 5], 1), ([2, 3], 1), ([9], 1)],
  [([1, 1, 1, 1, 1], 6171), ([1, 1, 1, 2], 2502), ([1, 1, 3], 6672), ([1, 1, 4], 1668), ([1, 2, 2], 3336), ([1, 5], 1), ([1, 6], 5004), ([2, 4], 5004), ([10], 1)],
  [([1, 1, 1, 1, 1], 4253), ([1, 1, 1, 2], 3336), ([1, 1, 3], 6672), ([1, 1, 4], 1668), ([1, 2, 2], 5004), ([1, 5], 5004), ([1, 6], 5004), ([1, 7], 5004), ([2, 3], 5004), ([11], 1)],
  [([1, 1, 1, 1, 1], 2335), ([1, 1, 1, 2], 4170), ([1, 1, 3], 6672), ([1, 1, 4], 1668), ([1, 2, 2], 6672), ([1, 5], 5004), ([1, 7], 5004), ([2, 3], 5004), ([2, 4], 5004), ([12], 1)],
  [([1, 1, 1, 1, 1], 8506), ([1, 1, 1, 2], 5004), ([1, 1, 3], 1), ([1, 1, 4], 5004), ([1, 6], 5005), ([1, 8], 5004), ([13], 1)],
  [([1, 1, 1, 1, 1], 4670), ([1, 1, 1, 2], 5838), ([1, 1, 3], 6672), ([1, 1, 4], 6672), ([1, 2, 2], 3336), ([1, 6], 5004), ([1, 7], 1), ([2, 4], 5004), ([14], 1)],
  [([1, 1, 1, 1, 1], 8506), ([1, 1, 1, 2], 5004), ([1, 1, 3], 3336), ([1, 1, 4], 3336), ([1, 2, 2], 1), ([1, 7], 1), ([2, 3], 1), ([15], 1)],
  [([1, 1, 1, 1, 1], 7005), ([1, 1, 1, 2], 7506), ([1, 1, 3], 3336), ([1, 1, 4], 8340), ([1, 2, 2], 6672), ([1, 7], 1), ([1, 8], 5004), ([2, 4], 5004), ([16], 1)],
  [([1, 1, 1, 1, 1], 4003), ([1, 1, 1, 2], 1), ([1, 1, 4], 2), ([1, 8], 2), ([17], 1)],
  [([1, 1, 1, 1, 1, 1], 3016), ([1, 1, 1, 1, 2], 417), ([1, 1, 1, 3], 1668), ([1, 1, 2, 2], 2502), ([1, 1, 5], 5004), ([1, 2, 3], 1), ([1, 9], 1), ([2, 2, 2], 1668), ([2, 5], 1), ([3, 3], 5004), ([18], 1)],
  [([1, 1, 1, 1, 1, 1], 6032), ([1, 1, 1, 1, 2], 4670), ([1, 1, 1, 3], 2502), ([1, 1, 1, 4], 417), ([1, 1, 2, 2], 2502), ([1, 1, 5], 6672), ([1, 1, 6], 1668), ([1, 2, 3], 6672), ([1, 2, 4], 3336), ([1, 9], 1), ([1, 10], 5004), ([2, 6], 5004), ([3, 4], 5004), ([19], 1)],
  [([1, 1, 1, 1, 1, 1], 9048), ([1, 1, 1, 1, 2], 8923), ([1, 1, 1, 3], 2919), ([1, 1, 1, 4], 417), ([1, 1, 2, 2], 3336), ([1, 1, 5], 6672), ([1, 1, 6], 1668), ([1, 1, 7], 1668), ([1, 2, 3], 6672), ([1, 2, 4], 1668), ([1, 9], 5004), ([1, 10], 5004), ([1, 11], 5004), ([2, 2, 2], 1668), ([2, 5], 5004), ([2, 7], 5004), ([20], 1)],
  [([1, 1, 1, 1, 1, 1], 2057), ([1, 1, 1, 1, 2], 3169), ([1, 1, 1, 3], 3336), ([1, 1, 1, 4], 417), ([1, 1, 2, 2], 4170), ([1, 1, 5], 5004), ([1, 1, 6], 1668), ([1, 1, 7], 1668), ([1, 2, 3], 1669), ([1, 2, 4], 1668), ([1, 9], 5004), ([1, 11], 5004), ([1, 12], 5004), ([2, 6], 5004), ([3, 3], 5004), ([21], 1)],
  [([1, 1, 1, 1, 1, 1], 5073), ([1, 1, 1, 1, 2], 7422), ([1, 1, 1, 3], 3753), ([1, 1, 1, 4], 417), ([1, 1, 2, 2], 5004), ([1, 1, 5], 6672), ([1, 1, 7], 1668), ([1, 2, 3], 1), ([1, 2, 4], 3336), ([1, 9], 5004), ([1, 12], 5004), ([2, 2, 2], 1668), ([2, 5], 5004), ([2, 7], 5004), ([3, 4], 5004), ([22], 1)],
  [([1, 1, 1, 1, 1, 1], 8089), ([1, 1, 1, 1, 2], 5504), ([1, 1, 1, 3], 5004), ([1, 1, 1, 4], 1251), ([1, 1, 2, 2], 2502), ([1, 1, 5], 1), ([1, 1, 6], 5004), ([1, 1, 8], 1668), ([1, 2, 4], 5004), ([1, 10], 5005), ([1, 13], 5004), ([2, 8], 5004), ([23], 1)],
  [([1, 1, 1, 1, 1, 1], 4114), ([1, 1, 1, 1, 2], 7839), ([1, 1, 1, 3], 5004), ([1, 1, 1, 4], 1668), ([1, 1, 2, 2], 3336), ([1, 1, 5], 6672), ([1, 1, 6], 5004), ([1, 1, 7], 3336), ([1, 2, 3], 3336), ([1, 2, 4], 5004), ([1, 10], 5004), ([1, 11], 1), ([1, 14], 5004), ([3, 4], 5004), ([24], 1)],
  [([1, 1, 1, 1, 1, 1], 139), ([1, 1, 1, 1, 2], 167), ([1, 1, 1, 3], 5004), ([1, 1, 1, 4], 2085), ([1, 1, 2, 2], 4170), ([1, 1, 5], 6672), ([1, 1, 6], 3336), ([1, 1, 7], 3336), ([1, 2, 3], 3336), ([1, 2, 4], 8340), ([1, 10], 5004), ([1, 12], 1), ([2, 6], 5004), ([4, 4], 5004), ([25], 1)],
  [([1, 1, 1, 1, 1, 1], 8089), ([1, 1, 1, 1, 2], 5504), ([1, 1, 1, 3], 3336), ([1, 1, 1, 4], 834), ([1, 1, 2, 2], 5004), ([1, 1, 5], 3336), ([1, 1, 6], 3336), ([1, 1, 7], 3336), ([1, 2, 3], 1), ([1, 11], 1), ([1, 15], 5004), ([2, 2, 2], 3336), ([2, 5], 1), ([26], 1)],
  [([1, 1, 1, 1, 1, 1], 6171), ([1, 1, 1, 1, 2], 2502), ([1, 1, 1, 3], 5838), ([1, 1, 1, 4], 2085), ([1, 1, 2, 2], 4170), ([1, 1, 5], 3336), ([1, 1, 6], 8340), ([1, 1, 7], 3336), ([1, 1, 8], 1668), ([1, 2, 3], 6672), ([1, 2, 4], 1668), ([1, 11], 1), ([1, 13], 5004), ([1, 16], 5004), ([2, 6], 5004), ([27], 1)],
  [([1, 1, 1, 1, 1, 1], 5212), ([1, 1, 1, 1, 2], 2919), ([1, 1, 1, 3], 5004), ([1, 1, 1, 4], 2502), ([1, 1, 2, 2], 5838), ([1, 1, 5], 3336), ([1, 1, 6], 3336), ([1, 1, 7], 8340), ([1, 2, 3], 5004), ([1, 2, 4], 5004), ([1, 11], 5004), ([1, 12], 5004), ([1, 14], 5004), ([2, 2, 2], 1668), ([2, 7], 1), ([28], 1)],
  [([1, 1, 1, 1, 1, 1], 139), ([1, 1, 1, 1, 2], 167), ([1, 1, 1, 3], 2919), ([1, 1, 1, 4], 1251), ([1, 1, 2, 2], 7506), ([1, 1, 5], 1668), ([1, 1, 7], 5004), ([1, 2, 3], 3337), ([1, 2, 4], 3336), ([1, 12], 5004), ([1, 15], 5004), ([2, 2, 2], 3336), ([2, 5], 5004), ([2, 7], 5004), ([3, 3], 5004), ([29], 1)],
  [([1, 1, 1, 1, 1, 1], 278), ([1, 1, 1, 1, 2], 5671), ([1, 1, 1, 3], 5004), ([1, 1, 1, 4], 2919), ([1, 1, 2, 2], 7506), ([1, 1, 5], 3336), ([1, 1, 7], 6672), ([1, 1, 8], 1668), ([1, 2, 3], 6672), ([1, 2, 4], 1), ([1, 12], 1), ([1, 16], 5004), ([2, 8], 5004), ([3, 4], 5004), ([30], 1)],
  [([1, 1, 1, 1, 1, 1], 2335), ([1, 1, 1, 1, 2], 8006), ([1, 1, 1, 3], 1), ([1, 1, 1, 4], 5004), ([1, 1, 6], 2), ([1, 1, 8], 6672), ([1, 13], 2), ([1, 17], 5004), ([31], 1)],
  [([1, 1, 1, 1, 1, 1], 417), ([1, 1, 1, 1, 2], 6505), ([1, 1, 1, 3], 7506), ([1, 1, 1, 4], 6255), ([1, 1, 2, 2], 2502), ([1, 1, 6], 1), ([1, 1, 7], 1), ([1, 1, 8], 3336), ([1, 2, 4], 5004), ([1, 13], 5004), ([1, 14], 5005), ([2, 8], 5004), ([32], 1)],
  [([1, 1, 1, 1, 1, 1], 278), ([1, 1, 1, 1, 2], 3336), ([1, 1, 1, 3], 3336), ([1, 1, 1, 4], 3753), ([1, 1, 2, 2], 7506), ([1, 1, 6], 1668), ([1, 1, 7], 1), ([1, 2, 3], 1), ([1, 2, 4], 6672), ([1, 14], 5004), ([1, 15], 1), ([2, 6], 5004), ([3, 4], 5004), ([33], 1)],
  [([1, 1, 1, 1, 1, 1], 556), ([1, 1, 1, 1, 2], 7339), ([1, 1, 1, 3], 5004), ([1, 1, 1, 4], 8340), ([1, 1, 2, 2], 5004), ([1, 1, 6], 3336), ([1, 1, 7], 3337), ([1, 1, 8], 3336), ([1, 2, 4], 1), ([1, 14], 1), ([1, 16], 1), ([4, 4], 5004), ([34], 1)],
  [([1, 1, 1, 1, 1, 1], 417), ([1, 1, 1, 1, 2], 6505), ([1, 1, 1, 3], 2502), ([1, 1, 1, 4], 5004), ([1, 1, 2, 2], 1), ([1, 1, 7], 1), ([1, 1, 8], 3336), ([1, 2, 3], 6672), ([1, 2, 4], 6672), ([1, 15], 5004), ([1, 16], 1), ([2, 2, 2], 3336), ([2, 7], 1), ([35], 1)],
  [([1, 1, 1, 1, 1, 1], 834), ([1, 1, 1, 1, 2], 9007), ([1, 1, 1, 3], 2502), ([1, 1, 1, 4], 1252), ([1, 1, 2, 2], 7506), ([1, 1, 7], 1), ([1, 1, 8], 1669), ([1, 2, 4], 1), ([1, 16], 5005), ([1, 17], 5004), ([2, 8], 5004), ([36], 1)],
  [([1, 1, 1, 1, 1, 1], 1668), ([1, 1, 1, 1, 2], 1), ([1, 1, 1, 4], 5006), ([1, 1, 8], 3339), ([1, 17], 5006), ([37], 1)]]
end Go.Proofs.YtdjhfeaimmpmhaaGreat

set_option maxRecDepth 100000
set_option linter.unusedVariables false
set_option linter.unusedSimpArgs false
namespace Go.Proofs.YtdjhfeaimmpmhaaGreat

/-! ### the action -/
/-! ### the powers -/
/-! ### the exponential -/
/-! ### the opposite map -/
end Go.Proofs.YtdjhfeaimmpmhaaGreat

set_option maxRecDepth 100000
set_option linter.unusedVariables false
set_option linter.unusedSimpArgs false
namespace Go.Proofs.YtdjhfeaimmpmhaaGreat

/-! ### smaller trees -/
/-- the numbers of nodes, written out -/
def SzT : List Nat := [0, 1, 2, 3, 3, 4, 4, 4, 4, 5, 5, 5, 5, 5, 5, 5, 5, 5, 6, 6, 6, 6, 6, 6, 6, 6, 6, 6, 6, 6, 6, 6, 6, 6, 6, 6, 6, 6]
def szT (k : Nat) : Nat := SzT.getD k 0
theorem szT_all : (List.range 38).all (fun k => Nat.beq (szT k) (szN k)) = true := by decide +kernel
theorem szT_is {k : Nat} (hk : k < 38) : szT k = szN k := by
  have h1 := szT_all
  rw [List.all_eq_true] at h1
  exact Nat.eq_of_beq_eq_true (h1 k (List.mem_range.2 hk))
/-! ### scaling -/
end Go.Proofs.YtdjhfeaimmpmhaaGreat

set_option maxRecDepth 100000
namespace Go.Proofs.YtdjhfeaimmpmhaaGreat

def HTab : List (Nat × Bool) := [(0, true), (1, true), (0, true), (2, true), (2, false), (0, false), (3, true), (0, true), (3, false), (4, true), (5, true), (5, false), (4, false), (6, true), (5, false), (4, true), (5, true), (6, false), (0, true), (7, true), (8, true), (7, true), (0, false), (9, true), (0, false), (7, false), (8, false), (9, false), (8, false), (0, true), (7, false), (10, true), (9, false), (7, true), (0, true), (8, true), (9, true), (10, false)]
def HCer : List (Nat × Nat × Nat) := [(4, 0, 1), (8, 0, 3), (12, 0, 4), (14, 0, 5), (17, 0, 7), (25, 0, 9), (28, 0, 10), (32, 0, 12), (37, 0, 16), (15, 1, 2), (16, 1, 3), (33, 1, 5), (35, 1, 6), (36, 1, 7), (30, 2, 3), (11, 6, 0), (21, 11, 0), (26, 14, 0), (27, 15, 0), (2, 0, 0), (7, 1, 1), (5, 0, 2), (29, 2, 2), (22, 1, 4), (18, 8, 0), (34, 3, 3), (24, 0, 13)]
def HBas : List Nat := [1, 3, 6, 9, 10, 13, 19, 20, 23, 31]
end Go.Proofs.YtdjhfeaimmpmhaaGreat

set_option maxRecDepth 100000
set_option linter.unusedVariables false
set_option linter.unusedSimpArgs false
namespace Go.Proofs.YtdjhfeaimmpmhaaGreat
open Go.RowKit

def evenN (x : Nat) : Bool := Nat.beq (x % 2) 0
def evF (t fr : List Nat) : Nat → List (List Nat) → Bool
  | _, [] => false
  | i, r :: rs => bif eqN r fr then evenN (t.getD i 0) else evF t fr (i + 1) rs
/-- the first root of the free form has an even level -/
def evN (t : List Nat) : Bool := match freeO t, rootedO t with
  | some fr, some rs => evF t fr 0 rs
  | _, _ => false
theorem evF_step {t fr : List Nat} {xs : List (List Nat)} {k : Nat} {q : List Nat} (hq : xs[k]? = some q) (i : Nat) : evF t fr i (xs.drop k) = bif eqN q fr then evenN (t.getD i 0) else evF t fr (i + 1) (xs.drop (k + 1)) := by
  have : xs.drop k = q :: xs.drop (k + 1) := by
    obtain ⟨hk, rfl⟩ := List.getElem?_eq_some_iff.1 hq
    exact List.drop_eq_getElem_cons hk
  rw [this, evF]
theorem even_tmod (a : Nat) : ((a : Int) % 2 == 0) = evenN a := by
  unfold evenN
  cases h : Nat.beq (a % 2) 0 with
  | true => have := Nat.eq_of_beq_eq_true h; simp; omega
  | false => have := Nat.ne_of_beq_eq_false h; simp; omega
theorem eqN_dec2 (q t : List Nat) : eqN q t = decide (up q = up t) := by
  by_cases e : q = t
  · rw [eqN_iff.2 e, e]; exact (decide_eq_true rfl).symm
  · have h1 : eqN q t = false := by
      cases hh : eqN q t with
      | true => exact absurd (eqN_iff.1 hh) e
      | false => rfl
    rw [h1]; exact (decide_eq_false fun h => e (up_inj h)).symm

set_option maxHeartbeats 4000000 in
theorem i_isEvenRoot (w : World) (v : Value) (t fr : List Nat) (rs : List (List Nat)) (ha : Ints w v (up t)) (ht : lvl t = true) (h8 : t.length ≤ 8) (hl : ∀ l ∈ t, l ≤ 1000000) (hfr : freeO t = some fr) (hrs : rootedO t = some rs) (hlen : rs.length = t.length) :
    Calls Tryz.prog 59 #[v] w fun e w' => e = .returned (.bool (evN t)) ∧ Below w.heap.size w w' := by
  have HA := Lib.hid ha
  have HFF := Lib.hid (fun W h => i_freeForm W v t fr h ht h8 hl hfr)
  have HRT := Lib.hid (fun W h => i_rooted W v t rs h ht h8 hl hrs)
  obtain ⟨EE, hEE⟩ : ∃ EE, EE = evN t := ⟨_, rfl⟩
  rw [← hEE]
  have HEE := Lib.hid (show EE = evF t fr 0 rs from by rw [hEE]; unfold evN; rw [hfr, hrs])
  obtain ⟨A, c, rfl, l1, l2, h3⟩ := ha.open_
  rw [up_len] at l1 h3 HA HFF HRT ⊢
  have H3 := Lib.hid h3
  clear ha ht hl hfr hrs hEE h3
  go_enter Tryz.func59, Tryz.ntmps59
  go_wp2_with (first
    | (go_at_call 58; refine (HFF.out _ HA.out).mono ?_; rintro e w1 ⟨x1, rfl, ho1, hb1⟩; obtain ⟨A1, c1, he1, -, -, -⟩ := ho1.ints.open_; rw [up_len] at he1; subst he1; have HO1 := Lib.hid ho1; have HB1 := Lib.hid hb1; clear ho1 hb1)
    | (go_at_call 120; refine (HRT.out _ (HA.out.below HB1.out)).mono ?_; rintro e w2 ⟨x2, rfl, hl2, hb2⟩; obtain ⟨A2, c2, he2, -, -, hr2⟩ := hl2.rows.open_; rw [List.length_map] at he2 hr2; subst he2; have HR2 := Lib.hid hr2; have HO2 := Lib.hid (HO1.out.below hb2); have HB2 := Lib.hid (HB1.out.trans (hb2.mono HB1.out.size)); clear hl2 hb2 hr2))
  go_loopw [11] (fun x wr => ∃ i d : Nat, i ≤ rs.length ∧ x = .int .i64 i ∧ Hid (evF t fr i (rs.drop i) = EE) ∧ wr = w2.drewN d) (fun x _ => rs.length - (intOf x).toNat)
  case atStart => exact ⟨0, 0, Nat.zero_le _, rfl, HEE.out.symm, rfl⟩
  case round =>
    obtain ⟨i, d, hi, rfl, HE, rfl⟩ := hrel
    by_cases hlt : i < rs.length
    · obtain ⟨ad, u, zs, rfl, hz, hu, hc⟩ := HR2.out i hlt
      have hq : rs[i]? = some (rs[i]'hlt) := List.getElem?_eq_getElem _
      have hzb : zs = up (rs[i]'hlt) := by rw [List.getElem?_map, hq] at hz; injection hz with hz; exact hz.symm
      subst hzb
      obtain ⟨at', z, rfl, hz2, -, hct⟩ := H3.out i (by omega)
      obtain ⟨a, hla, rfl⟩ := up_getD hz2
      have hga : t.getD i 0 = a := by simp [List.getD, hla]
      have hcw : w2.cell? (at'.add i) = some (.int .i64 (a : Int)) := keepCell HB2.out hct
      have he := HE.out
      rw [evF_step hq, hga] at he
      have hed := eqN_dec2 (rs[i]'hlt) fr
      generalize rs[i]'hlt = q at *
      obtain ⟨A5, c5, rfl, -, -, -⟩ := hu.open_
      rw [up_len] at hc hu
      have hsm := lib_Equal (w2.drewN d) _ _ (up q) (up fr) (hu.drewN d) (HO2.out.ints.drewN d)
      rw [← hed] at hsm
      have htm := even_tmod a
      have hii : (i : Int) < (rs.length : Int) := by omega
      have hit : (i : Int) < (t.length : Int) := by omega
      clear hed hq hz hz2 hct hla hga hu HE
      cases hb : eqN q fr with
      | true =>
        rw [hb] at he hsm
        have HE := Lib.hid (show EE = ((a : Int) % 2 == 0) from by rw [htm]; exact he.symm)
        have HSM := Lib.hid hsm
        clear he hsm hb htm
        go_wp2_with (go_at_call 83; refine HSM.out.mono ?_; rintro e w6 ⟨rfl, n6, rfl⟩)
        go_ret
        exact ⟨ret_bool HE.out.symm, below_drewN HB2.out _⟩
      | false =>
        rw [hb] at he hsm
        have HE := Lib.hid (show evF t fr (i + 1) (rs.drop (i + 1)) = EE from he)
        have HSM := Lib.hid hsm
        clear he hsm hb htm
        go_wp2_with (go_at_call 83; refine HSM.out.mono ?_; rintro e w6 ⟨rfl, n6, rfl⟩)
        go_roundw
        case rel => exact ⟨i + 1, _, by omega, by go_num, HE.out, by first | rfl | exact World.drewN_drewN ..⟩
        case measure => simp [intOf]; omega
    · have hil : i = rs.length := by omega
      have HF := Lib.hid (show EE = false from by rw [← HE.out, hil, List.drop_length, evF])
      go_wp2_with fail
      go_ret
      exact ⟨ret_bool HF.out.symm, below_drewN HB2.out d⟩

/-- has a node before which the form is come to an even level? -/
def sgF (t fo : List Nat) : Nat → Nat → Option Bool
  | 0, _ => some false
  | f + 1, n => match turV 9 t n with
    | none => none
    | some q => bif eqN q fo && evenN (t.getD n 0) then some true else sgF t fo f (n + 1)
theorem sgF_succ {t fo : List Nat} {f n : Nat} {r : Bool} (h : sgF t fo (f + 1) n = some r) : ∃ q, turV 9 t n = some q ∧ (((eqN q fo && evenN (t.getD n 0)) = true ∧ r = true) ∨ ((eqN q fo && evenN (t.getD n 0)) = false ∧ sgF t fo f (n + 1) = some r)) := by
  rw [sgF] at h
  cases hq : turV 9 t n with
  | none => rw [hq] at h; cases h
  | some q =>
    rw [hq] at h
    simp only at h
    cases hb : (eqN q fo && evenN (t.getD n 0)) with
    | true => rw [hb] at h; injection h with h; exact ⟨q, rfl, .inl ⟨hb, h.symm⟩⟩
    | false => rw [hb] at h; exact ⟨q, rfl, .inr ⟨hb, h⟩⟩
def sgZ (b : Bool) : Int := if b then 1 else -1

set_option maxHeartbeats 8000000 in
theorem s_l12Sign (w : World) (v : Value) (t fo : List Nat) (k : Nat) (ys : List CT) (r : Bool) (ha : Ints w v (up t)) (h8 : t.length ≤ 8) (hr : rooV t t.length = some ((fo, k) :: ys)) (hs : sgF t fo t.length 0 = some r) :
    Calls Tryz.prog 124 #[v] w fun e w' => e = .returned (.int .i64 (sgZ r)) ∧ Below w.heap.size w w' := by
  have HA := Lib.hid ha
  have HR := Lib.hid (fun W h => s_l04Roots W v t _ h (by omega) hr)
  have HS := Lib.hid hs
  obtain ⟨Z, hZ⟩ : ∃ Z, Z = sgZ r := ⟨_, rfl⟩
  rw [← hZ]
  have HZ := Lib.hid hZ
  obtain ⟨A, c, rfl, l1, l2, h3⟩ := ha.open_
  rw [up_len] at l1 h3 HA HR ⊢
  have H3 := Lib.hid h3
  clear ha hr hs hZ h3
  go_enter Tryz.func124, Tryz.ntmps124
  go_wp2_with (go_at_call 122; go_loud (refine (HR.out _ HA.out).mono ?_; rintro e w1 ⟨x1, rfl, ho1, hb1⟩; obtain ⟨g, cap, A1, c1, he, hc1, -, hr1⟩ := ho1.at_ (k := 0) rfl; subst he; have hc1' : w1.cell? ⟨g, 0, none⟩ = some (.slice A1 fo.length c1) := hc1; have HF1 := Lib.hid hr1; have HB1 := Lib.hid hb1; have hp1 : 0 < ((fo, k) :: ys).length := (by simp); clear hc1 ho1 hb1 hr1))
  clear hc1' hp1
  go_loopw [4] (fun x wr => ∃ n : Nat, n ≤ t.length ∧ x = .int .i64 n ∧ Hid (sgF t fo (t.length - n) n = some r) ∧ Below w1.heap.size w1 wr) (fun x _ => t.length - (intOf x).toNat)
  case atStart => exact ⟨0, Nat.zero_le _, rfl, HS.out, Below.refl _ _⟩
  case round =>
    obtain ⟨n, hn, rfl, HD, hb⟩ := hrel
    have HB := Lib.hid hb
    clear hb
    by_cases hlt : n < t.length
    · have hd := HD.out
      rw [show t.length - n = (t.length - (n + 1)) + 1 by omega] at hd
      obtain ⟨q, hq, hcs⟩ := sgF_succ hd
      obtain ⟨ad, z, rfl, hz, -, hc⟩ := H3.out n hlt
      obtain ⟨a, hla, rfl⟩ := up_getD hz
      have hga : t.getD n 0 = a := by simp [List.getD, hla]
      rw [hga, ← even_tmod, eqN_dec2] at hcs
      have HQ := Lib.hid hq
      have HCS := Lib.hid hcs
      have HBW := Lib.hid (HB1.out.trans (HB.out.mono HB1.out.size))
      have HC := Lib.hid hc
      have HSM := Lib.hid (fun W y (hy : Ints W y (up q)) (h : Ints W (.slice A1 fo.length c1) (up fo)) => s_l01Same W y (.slice A1 fo.length c1) (up q) (up fo) hy h)
      have hii : (n : Int) < (t.length : Int) := by omega
      clear hd hq hcs hz hla hga hc HD
      generalize decide (up q = up fo) = dd at HCS HSM
      cases dd with
      | false =>
        have HD := Lib.hid (show sgF t fo (t.length - (n + 1)) (n + 1) = some r from by
          rcases HCS.out with ⟨h, -⟩ | ⟨-, h⟩
          · cases h
          · exact h)
        go_wp2_with (first
          | (go_at_call 174; (with_reducible refine (s_l04Turn 9 _ _ t q n (HA.out.below HBW.out) HQ.out).mono ?_); rintro e w8 ⟨x8, rfl, ho8, hb8⟩; have HO8 := Lib.hid ho8; have HB8 := Lib.hid (HB.out.trans (hb8.mono HB.out.size)); clear ho8 hb8)
          | (go_at_call 135; (with_reducible refine (HSM.out _ _ HO8.out.ints (HF1.out.below HB8.out).ints).mono ?_); rintro e w9 ⟨rfl, n9, rfl⟩))
        go_roundw
        case rel => exact ⟨n + 1, by omega, by go_num, HD.out, below_drewN HB8.out n9⟩
        case measure => simp [intOf]; omega
      | true =>
        rcases HCS.out with ⟨h, hr⟩ | ⟨h, hD⟩
        · have HZ1 := Lib.hid (show Z = 1 from by rw [HZ.out, hr]; rfl)
          have hev : ((a : Int) % 2 == 0) = true := by simpa using h
          clear h hr
          go_wp2_with (first
            | (go_at_call 174; (with_reducible refine (s_l04Turn 9 _ _ t q n (HA.out.below HBW.out) HQ.out).mono ?_); rintro e w8 ⟨x8, rfl, ho8, hb8⟩; have HO8 := Lib.hid ho8; have HB8 := Lib.hid (HB.out.trans (hb8.mono HB.out.size)); clear ho8 hb8)
            | (go_at_call 135; (with_reducible refine (HSM.out _ _ HO8.out.ints (HF1.out.below HB8.out).ints).mono ?_); rintro e w9 ⟨rfl, n9, rfl⟩; have hcw := keepCell (HB1.out.trans (HB8.out.mono HB1.out.size)) HC.out))
          go_ret
          exact ⟨ret_i64 HZ1.out.symm, below_drewN (HB1.out.trans (HB8.out.mono HB1.out.size)) n9⟩
        · have HD := Lib.hid hD
          have hev : ((a : Int) % 2 == 0) = false := by simpa using h
          clear h hD
          go_wp2_with (first
            | (go_at_call 174; (with_reducible refine (s_l04Turn 9 _ _ t q n (HA.out.below HBW.out) HQ.out).mono ?_); rintro e w8 ⟨x8, rfl, ho8, hb8⟩; have HO8 := Lib.hid ho8; have HB8 := Lib.hid (HB.out.trans (hb8.mono HB.out.size)); clear ho8 hb8)
            | (go_at_call 135; (with_reducible refine (HSM.out _ _ HO8.out.ints (HF1.out.below HB8.out).ints).mono ?_); rintro e w9 ⟨rfl, n9, rfl⟩; have hcw := keepCell (HB1.out.trans (HB8.out.mono HB1.out.size)) HC.out))
          go_roundw
          case rel => exact ⟨n + 1, by omega, by go_num, HD.out, below_drewN HB8.out n9⟩
          case measure => simp [intOf]; omega
    · have hnl : n = t.length := by omega
      have HZ1 := Lib.hid (show Z = -1 from by
        have h := HD.out
        rw [hnl, Nat.sub_self, sgF] at h
        injection h with h
        rw [HZ.out, ← h]; rfl)
      go_wp2_with fail
      go_ret
      exact ⟨ret_i64 HZ1.out.symm, HB1.out.trans (HB.out.mono HB1.out.size)⟩
end Go.Proofs.YtdjhfeaimmpmhaaGreat

