/- The partitions of the trees of maps by places: the pieces', the skeleton's, how often. (printed by sbtgen.py) No walk. | Plain: substitution by a table of places is associative, has a unit on either side, and goes into convolutions; kernel checks. No walk. | Plain: substitution of lists of numbers is the one by the table of places; associative, units, inverses on both sides, powers. No walk. | Plain: the inverse of a character as the program reckons it (a list that grows) and as the reference does (stores into a unit); they are equal. Scaled maps. No walk. | Plain: repeated convolutions with scaled maps. No walk. | Plain: characters as lists are a group under convolution; scaling; adjoints. No walk. | Plain: logarithms of characters: filled by numbers of nodes; the exponential of the logarithm is the character; the logarithm of an inverse and of a scaled character. No walk. -/
import Derived.Test.YtdjhfeaimmpmhaaGreatZm1
import Derived.Test.YtdjhfeaimmpmhaaGreatZm20
import Derived.Test.YtdjhfeaimmpmhaaGreatZm19
set_option maxRecDepth 100000
namespace Go.Proofs.YtdjhfeaimmpmhaaGreat

def STab : List (List ((List Nat × Nat) × Nat)) := [
  [(([1], 1), 1)],
  [(([2], 1), 1), (([1, 1], 2), 1)],
  [(([3], 1), 1), (([1, 2], 2), 2), (([1, 1, 1], 3), 1)],
  [(([4], 1), 1), (([1, 2], 2), 2), (([1, 1, 1], 4), 1)],
  [(([5], 1), 1), (([1, 3], 2), 2), (([2, 2], 2), 1), (([1, 1, 2], 3), 3), (([1, 1, 1, 1], 5), 1)],
  [(([6], 1), 1), (([1, 3], 2), 2), (([1, 4], 2), 1), (([1, 1, 2], 3), 2), (([1, 1, 2], 4), 1), (([1, 1, 1, 1], 6), 1)],
  [(([7], 1), 1), (([1, 3], 2), 1), (([1, 4], 2), 1), (([2, 2], 2), 1), (([1, 1, 2], 3), 1), (([1, 1, 2], 4), 2), (([1, 1, 1, 1], 7), 1)],
  [(([8], 1), 1), (([1, 4], 2), 3), (([1, 1, 2], 4), 3), (([1, 1, 1, 1], 8), 1)],
  [(([9], 1), 1), (([1, 5], 2), 2), (([2, 3], 2), 2), (([1, 1, 3], 3), 3), (([1, 2, 2], 3), 3), (([1, 1, 1, 2], 5), 4), (([1, 1, 1, 1, 1], 9), 1)],
  [(([10], 1), 1), (([1, 5], 2), 2), (([1, 6], 2), 1), (([2, 4], 2), 1), (([1, 1, 3], 3), 2), (([1, 1, 4], 3), 1), (([1, 2, 2], 3), 2), (([1, 1, 3], 4), 1), (([1, 1, 1, 2], 5), 2), (([1, 1, 1, 2], 6), 2), (([1, 1, 1, 1, 1], 10), 1)],
  [(([11], 1), 1), (([1, 5], 2), 1), (([1, 6], 2), 1), (([1, 7], 2), 1), (([2, 3], 2), 1), (([1, 1, 3], 3), 2), (([1, 1, 4], 3), 1), (([1, 2, 2], 3), 1), (([1, 1, 3], 4), 1), (([1, 2, 2], 4), 1), (([1, 1, 1, 2], 5), 1), (([1, 1, 1, 2], 6), 2), (([1, 1, 1, 2], 7), 1), (([1, 1, 1, 1, 1], 11), 1)],
  [(([12], 1), 1), (([1, 5], 2), 1), (([1, 7], 2), 1), (([2, 3], 2), 1), (([2, 4], 2), 1), (([1, 1, 4], 3), 1), (([1, 2, 2], 3), 2), (([1, 1, 3], 4), 2), (([1, 2, 2], 4), 1), (([1, 1, 1, 2], 5), 1), (([1, 1, 1, 2], 7), 3), (([1, 1, 1, 1, 1], 12), 1)],
  [(([13], 1), 1), (([1, 6], 2), 3), (([1, 8], 2), 1), (([1, 1, 4], 3), 3), (([1, 1, 3], 4), 3), (([1, 1, 1, 2], 6), 3), (([1, 1, 1, 2], 8), 1), (([1, 1, 1, 1, 1], 13), 1)],
  [(([14], 1), 1), (([1, 6], 2), 1), (([1, 7], 2), 2), (([2, 4], 2), 1), (([1, 2, 2], 3), 2), (([1, 1, 3], 4), 2), (([1, 1, 4], 4), 2), (([1, 1, 1, 2], 6), 1), (([1, 1, 1, 2], 7), 2), (([1, 1, 1, 2], 8), 1), (([1, 1, 1, 1, 1], 14), 1)],
  [(([15], 1), 1), (([1, 7], 2), 2), (([2, 3], 2), 2), (([1, 1, 3], 3), 2), (([1, 1, 4], 4), 1), (([1, 2, 2], 4), 3), (([1, 1, 1, 2], 7), 4), (([1, 1, 1, 1, 1], 15), 1)],
  [(([16], 1), 1), (([1, 7], 2), 2), (([1, 8], 2), 1), (([2, 4], 2), 1), (([1, 1, 4], 3), 1), (([1, 1, 3], 4), 1), (([1, 1, 4], 4), 2), (([1, 2, 2], 4), 2), (([1, 1, 1, 2], 7), 2), (([1, 1, 1, 2], 8), 2), (([1, 1, 1, 1, 1], 16), 1)],
  [(([17], 1), 1), (([1, 8], 2), 4), (([1, 1, 4], 4), 6), (([1, 1, 1, 2], 8), 4), (([1, 1, 1, 1, 1], 17), 1)],
  [(([18], 1), 1), (([1, 9], 2), 2), (([2, 5], 2), 2), (([3, 3], 2), 1), (([1, 1, 5], 3), 3), (([1, 2, 3], 3), 6), (([2, 2, 2], 3), 1), (([1, 1, 1, 3], 5), 4), (([1, 1, 2, 2], 5), 6), (([1, 1, 1, 1, 2], 9), 5), (([1, 1, 1, 1, 1, 1], 18), 1)],
  [(([19], 1), 1), (([1, 9], 2), 2), (([1, 10], 2), 1), (([2, 6], 2), 1), (([3, 4], 2), 1), (([1, 1, 5], 3), 2), (([1, 1, 6], 3), 1), (([1, 2, 3], 3), 4), (([1, 2, 4], 3), 2), (([1, 1, 5], 4), 1), (([1, 1, 1, 3], 5), 2), (([1, 1, 1, 4], 5), 1), (([1, 1, 2, 2], 5), 4), (([1, 1, 1, 3], 6), 2), (([1, 1, 2, 2], 6), 1), (([1, 1, 1, 1, 2], 9), 2), (([1, 1, 1, 1, 2], 10), 3), (([1, 1, 1, 1, 1, 1], 19), 1)],
  [(([20], 1), 1), (([1, 9], 2), 1), (([1, 10], 2), 1), (([1, 11], 2), 1), (([2, 5], 2), 1), (([2, 7], 2), 1), (([1, 1, 5], 3), 2), (([1, 1, 6], 3), 1), (([1, 1, 7], 3), 1), (([1, 2, 3], 3), 2), (([1, 2, 4], 3), 1), (([2, 2, 2], 3), 1), (([1, 1, 5], 4), 1), (([1, 2, 3], 4), 1), (([1, 1, 1, 3], 5), 2), (([1, 1, 1, 4], 5), 1), (([1, 1, 2, 2], 5), 2), (([1, 1, 1, 3], 6), 1), (([1, 1, 2, 2], 6), 3), (([1, 1, 1, 3], 7), 1), (([1, 1, 1, 1, 2], 9), 1), (([1, 1, 1, 1, 2], 10), 2), (([1, 1, 1, 1, 2], 11), 2), (([1, 1, 1, 1, 1, 1], 20), 1)],
  [(([21], 1), 1), (([1, 9], 2), 1), (([1, 11], 2), 1), (([1, 12], 2), 1), (([2, 6], 2), 1), (([3, 3], 2), 1), (([1, 1, 5], 3), 1), (([1, 1, 6], 3), 1), (([1, 1, 7], 3), 1), (([1, 2, 3], 3), 3), (([1, 2, 4], 3), 1), (([1, 1, 5], 4), 1), (([1, 2, 3], 4), 2), (([1, 1, 1, 3], 5), 1), (([1, 1, 1, 4], 5), 1), (([1, 1, 2, 2], 5), 2), (([1, 1, 1, 3], 6), 2), (([1, 1, 2, 2], 6), 1), (([1, 1, 1, 3], 7), 1), (([1, 1, 2, 2], 7), 2), (([1, 1, 1, 1, 2], 9), 1), (([1, 1, 1, 1, 2], 11), 3), (([1, 1, 1, 1, 2], 12), 1), (([1, 1, 1, 1, 1, 1], 21), 1)],
  [(([22], 1), 1), (([1, 9], 2), 1), (([1, 12], 2), 1), (([2, 5], 2), 1), (([2, 7], 2), 1), (([3, 4], 2), 1), (([1, 1, 7], 3), 1), (([1, 2, 3], 3), 2), (([1, 2, 4], 3), 2), (([2, 2, 2], 3), 1), (([1, 1, 5], 4), 2), (([1, 2, 3], 4), 2), (([1, 1, 1, 4], 5), 1), (([1, 1, 2, 2], 5), 3), (([1, 1, 1, 3], 7), 3), (([1, 1, 2, 2], 7), 3), (([1, 1, 1, 1, 2], 9), 1), (([1, 1, 1, 1, 2], 12), 4), (([1, 1, 1, 1, 1, 1], 22), 1)],
  [(([23], 1), 1), (([1, 10], 2), 3), (([1, 13], 2), 1), (([2, 8], 2), 1), (([1, 1, 6], 3), 3), (([1, 1, 8], 3), 1), (([1, 2, 4], 3), 3), (([1, 1, 5], 4), 3), (([1, 1, 1, 4], 5), 3), (([1, 1, 1, 3], 6), 3), (([1, 1, 2, 2], 6), 3), (([1, 1, 1, 3], 8), 1), (([1, 1, 1, 1, 2], 10), 3), (([1, 1, 1, 1, 2], 13), 2), (([1, 1, 1, 1, 1, 1], 23), 1)],
  [(([24], 1), 1), (([1, 10], 2), 1), (([1, 11], 2), 2), (([1, 14], 2), 1), (([3, 4], 2), 1), (([1, 1, 6], 3), 1), (([1, 1, 7], 3), 2), (([1, 2, 3], 3), 2), (([1, 2, 4], 3), 1), (([1, 1, 5], 4), 2), (([1, 1, 6], 4), 1), (([1, 2, 4], 4), 1), (([1, 1, 2, 2], 5), 2), (([1, 1, 1, 3], 6), 3), (([1, 1, 1, 4], 6), 2), (([1, 1, 2, 2], 7), 2), (([1, 1, 1, 3], 8), 1), (([1, 1, 1, 1, 2], 10), 1), (([1, 1, 1, 1, 2], 11), 2), (([1, 1, 1, 1, 2], 13), 1), (([1, 1, 1, 1, 2], 14), 1), (([1, 1, 1, 1, 1, 1], 24), 1)],
  [(([25], 1), 1), (([1, 10], 2), 1), (([1, 12], 2), 2), (([2, 6], 2), 1), (([4, 4], 2), 1), (([1, 2, 3], 3), 2), (([1, 2, 4], 3), 3), (([1, 1, 5], 4), 2), (([1, 1, 6], 4), 1), (([1, 1, 7], 4), 1), (([1, 2, 4], 4), 1), (([1, 1, 2, 2], 5), 2), (([1, 1, 1, 4], 6), 1), (([1, 1, 2, 2], 6), 1), (([1, 1, 1, 3], 7), 2), (([1, 1, 1, 4], 7), 1), (([1, 1, 2, 2], 7), 2), (([1, 1, 1, 3], 8), 1), (([1, 1, 1, 1, 2], 10), 1), (([1, 1, 1, 1, 2], 12), 2), (([1, 1, 1, 1, 2], 14), 2), (([1, 1, 1, 1, 1, 1], 25), 1)],
  [(([26], 1), 1), (([1, 11], 2), 2), (([1, 15], 2), 1), (([2, 5], 2), 2), (([1, 1, 5], 3), 2), (([1, 1, 7], 3), 2), (([1, 2, 3], 3), 2), (([1, 1, 6], 4), 1), (([1, 2, 3], 4), 2), (([2, 2, 2], 4), 1), (([1, 1, 1, 3], 5), 2), (([1, 1, 1, 4], 6), 1), (([1, 1, 2, 2], 6), 3), (([1, 1, 1, 3], 7), 2), (([1, 1, 2, 2], 7), 2), (([1, 1, 1, 1, 2], 11), 4), (([1, 1, 1, 1, 2], 15), 1), (([1, 1, 1, 1, 1, 1], 26), 1)],
  [(([27], 1), 1), (([1, 11], 2), 2), (([1, 13], 2), 1), (([1, 16], 2), 1), (([2, 6], 2), 1), (([1, 1, 6], 3), 1), (([1, 1, 7], 3), 2), (([1, 1, 8], 3), 1), (([1, 2, 4], 3), 1), (([1, 1, 5], 4), 1), (([1, 1, 6], 4), 2), (([1, 2, 3], 4), 2), (([1, 1, 1, 4], 5), 1), (([1, 1, 1, 3], 6), 1), (([1, 1, 1, 4], 6), 2), (([1, 1, 2, 2], 6), 2), (([1, 1, 1, 3], 7), 2), (([1, 1, 1, 3], 8), 1), (([1, 1, 2, 2], 8), 1), (([1, 1, 1, 1, 2], 11), 2), (([1, 1, 1, 1, 2], 13), 2), (([1, 1, 1, 1, 2], 16), 1), (([1, 1, 1, 1, 1, 1], 27), 1)],
  [(([28], 1), 1), (([1, 11], 2), 1), (([1, 12], 2), 1), (([1, 14], 2), 1), (([2, 7], 2), 2), (([1, 1, 7], 3), 1), (([1, 2, 3], 3), 1), (([1, 2, 4], 3), 1), (([2, 2, 2], 3), 1), (([1, 1, 5], 4), 1), (([1, 1, 6], 4), 1), (([1, 1, 7], 4), 2), (([1, 2, 3], 4), 1), (([1, 2, 4], 4), 1), (([1, 1, 2, 2], 5), 1), (([1, 1, 2, 2], 6), 2), (([1, 1, 1, 3], 7), 2), (([1, 1, 1, 4], 7), 2), (([1, 1, 2, 2], 7), 1), (([1, 1, 1, 3], 8), 1), (([1, 1, 2, 2], 8), 1), (([1, 1, 1, 1, 2], 11), 1), (([1, 1, 1, 1, 2], 12), 1), (([1, 1, 1, 1, 2], 14), 2), (([1, 1, 1, 1, 2], 16), 1), (([1, 1, 1, 1, 1, 1], 28), 1)],
  [(([29], 1), 1), (([1, 12], 2), 1), (([1, 15], 2), 1), (([2, 5], 2), 1), (([2, 7], 2), 1), (([3, 3], 2), 1), (([1, 1, 5], 3), 1), (([1, 1, 7], 3), 1), (([1, 2, 3], 3), 2), (([1, 1, 7], 4), 1), (([1, 2, 3], 4), 3), (([1, 2, 4], 4), 1), (([2, 2, 2], 4), 1), (([1, 1, 1, 3], 5), 1), (([1, 1, 1, 3], 7), 2), (([1, 1, 1, 4], 7), 1), (([1, 1, 2, 2], 7), 6), (([1, 1, 1, 1, 2], 12), 2), (([1, 1, 1, 1, 2], 15), 3), (([1, 1, 1, 1, 1, 1], 29), 1)],
  [(([30], 1), 1), (([1, 12], 2), 2), (([1, 16], 2), 1), (([2, 8], 2), 1), (([3, 4], 2), 1), (([1, 1, 8], 3), 1), (([1, 2, 4], 3), 2), (([1, 1, 5], 4), 1), (([1, 1, 7], 4), 2), (([1, 2, 3], 4), 2), (([1, 2, 4], 4), 2), (([1, 1, 1, 4], 5), 1), (([1, 1, 1, 4], 7), 2), (([1, 1, 2, 2], 7), 4), (([1, 1, 1, 3], 8), 2), (([1, 1, 2, 2], 8), 1), (([1, 1, 1, 1, 2], 12), 2), (([1, 1, 1, 1, 2], 16), 3), (([1, 1, 1, 1, 1, 1], 30), 1)],
  [(([31], 1), 1), (([1, 13], 2), 4), (([1, 17], 2), 1), (([1, 1, 8], 3), 4), (([1, 1, 6], 4), 6), (([1, 1, 1, 4], 6), 6), (([1, 1, 1, 3], 8), 4), (([1, 1, 1, 1, 2], 13), 4), (([1, 1, 1, 1, 2], 17), 1), (([1, 1, 1, 1, 1, 1], 31), 1)],
  [(([32], 1), 1), (([1, 13], 2), 1), (([1, 14], 2), 3), (([2, 8], 2), 1), (([1, 2, 4], 3), 3), (([1, 1, 6], 4), 3), (([1, 1, 7], 4), 3), (([1, 1, 8], 4), 1), (([1, 1, 2, 2], 6), 3), (([1, 1, 1, 4], 7), 3), (([1, 1, 1, 3], 8), 3), (([1, 1, 1, 4], 8), 1), (([1, 1, 1, 1, 2], 13), 1), (([1, 1, 1, 1, 2], 14), 3), (([1, 1, 1, 1, 2], 17), 1), (([1, 1, 1, 1, 1, 1], 32), 1)],
  [(([33], 1), 1), (([1, 14], 2), 1), (([1, 15], 2), 2), (([2, 6], 2), 1), (([3, 4], 2), 1), (([1, 1, 6], 3), 1), (([1, 2, 3], 3), 2), (([1, 1, 7], 4), 3), (([1, 2, 3], 4), 2), (([1, 2, 4], 4), 2), (([1, 1, 1, 3], 6), 1), (([1, 1, 1, 3], 7), 2), (([1, 1, 1, 4], 7), 1), (([1, 1, 2, 2], 7), 4), (([1, 1, 1, 4], 8), 1), (([1, 1, 2, 2], 8), 1), (([1, 1, 1, 1, 2], 14), 2), (([1, 1, 1, 1, 2], 15), 2), (([1, 1, 1, 1, 2], 16), 1), (([1, 1, 1, 1, 1, 1], 33), 1)],
  [(([34], 1), 1), (([1, 14], 2), 2), (([1, 16], 2), 2), (([4, 4], 2), 1), (([1, 2, 4], 3), 2), (([1, 1, 6], 4), 1), (([1, 1, 7], 4), 4), (([1, 1, 8], 4), 1), (([1, 2, 4], 4), 2), (([1, 1, 1, 4], 6), 1), (([1, 1, 2, 2], 7), 4), (([1, 1, 1, 3], 8), 2), (([1, 1, 1, 4], 8), 3), (([1, 1, 1, 1, 2], 14), 2), (([1, 1, 1, 1, 2], 16), 2), (([1, 1, 1, 1, 2], 17), 1), (([1, 1, 1, 1, 1, 1], 34), 1)],
  [(([35], 1), 1), (([1, 15], 2), 1), (([1, 16], 2), 2), (([2, 7], 2), 2), (([1, 1, 7], 3), 2), (([1, 1, 7], 4), 2), (([1, 1, 8], 4), 1), (([1, 2, 3], 4), 2), (([1, 2, 4], 4), 2), (([2, 2, 2], 4), 1), (([1, 1, 1, 3], 7), 2), (([1, 1, 1, 4], 7), 2), (([1, 1, 2, 2], 7), 2), (([1, 1, 1, 4], 8), 1), (([1, 1, 2, 2], 8), 3), (([1, 1, 1, 1, 2], 15), 1), (([1, 1, 1, 1, 2], 16), 4), (([1, 1, 1, 1, 1, 1], 35), 1)],
  [(([36], 1), 1), (([1, 16], 2), 3), (([1, 17], 2), 1), (([2, 8], 2), 1), (([1, 1, 8], 3), 1), (([1, 1, 7], 4), 3), (([1, 1, 8], 4), 3), (([1, 2, 4], 4), 3), (([1, 1, 1, 4], 7), 3), (([1, 1, 1, 3], 8), 1), (([1, 1, 1, 4], 8), 3), (([1, 1, 2, 2], 8), 3), (([1, 1, 1, 1, 2], 16), 3), (([1, 1, 1, 1, 2], 17), 2), (([1, 1, 1, 1, 1, 1], 36), 1)],
  [(([37], 1), 1), (([1, 17], 2), 5), (([1, 1, 8], 4), 10), (([1, 1, 1, 4], 8), 10), (([1, 1, 1, 1, 2], 17), 5), (([1, 1, 1, 1, 1, 1], 37), 1)]]
end Go.Proofs.YtdjhfeaimmpmhaaGreat

set_option maxRecDepth 100000
set_option linter.unusedVariables false
set_option linter.unusedSimpArgs false
namespace Go.Proofs.YtdjhfeaimmpmhaaGreat

def SPt (p : Nat) : List MCt := match p with
  | 0 => [(([], 0), 1)]
  | n + 1 => STab.getD n []
/-- substitution over integers: of b into a -/
def sv (b a : Nat → Int) (p : Nat) : Int := gv SPt b a p
/-! ### the unit -/
end Go.Proofs.YtdjhfeaimmpmhaaGreat

set_option maxRecDepth 100000
set_option linter.unusedVariables false
set_option linter.unusedSimpArgs false
namespace Go.Proofs.YtdjhfeaimmpmhaaGreat
open Go.RowKit

/-! ### the table -/
theorem nums_ext {x y : List Int} (hx : Nums x) (hy : Nums y) (lx : x.length = 38) (ly : y.length = 38) (h : ∀ p, p < 38 → gz x p % 10007 = gz y p % 10007) : x = y := by
  refine List.ext_getElem (by rw [lx, ly]) fun i h1 h2 => ?_
  have h3 := h i (by omega)
  have b1 := getD_nums hx i
  have b2 := getD_nums hy i
  have h4 : x.getD i 0 = y.getD i 0 := by
    have h5 : x.getD i 0 % 10007 = y.getD i 0 % 10007 := h3
    omega
  rw [List.getD_eq_getElem?_getD, List.getD_eq_getElem?_getD, List.getElem?_eq_getElem h1, List.getElem?_eq_getElem h2] at h4
  simpa using h4
/-! ### products -/
theorem cvZ_cv (a b : List Int) {p : Nat} (hp : p < 38) : gz (cvZ a b) p % 10007 = cv (gz a) (gz b) p % 10007 := by
  cases p with
  | zero =>
    show b.getD 0 0 % 10007 = sumF (cvT (gz a) (gz b)) [(([], 0), 1)] % 10007
    simp only [sumF, cvT, pz_nil]
    show _ = (((1 : Nat) : Int) * (1 * b.getD 0 0) + 0) % 10007
    simp
  | succ n =>
    show (cvZ a b).getD (n + 1) 0 % 10007 = sumF (cvT (gz a) (gz b)) (CTab.getD n []) % 10007
    rw [List.getD_eq_getElem?_getD, cvZ_get a b (by omega)]
    show sumF (tcI a b) (CTab.getD n []) % 10007 % 10007 = _
    rw [Int.emod_emod_of_dvd _ (Int.dvd_refl _)]
    exact sumF_modc fun x _ => by rw [tcI_is, Int.emod_emod_of_dvd _ (Int.dvd_refl _)]
/-! ### the inverse -/
end Go.Proofs.YtdjhfeaimmpmhaaGreat

set_option maxRecDepth 100000
set_option linter.unusedVariables false
set_option linter.unusedSimpArgs false
namespace Go.Proofs.YtdjhfeaimmpmhaaGreat
open Go.RowKit

/-! ### what the kernel finds of the places in cuts -/
def okTp (p : Nat) (x : MCt) : Bool := (bif Nat.blt 0 x.1.2 then x.1.1.all (fun k => Nat.blt k p || Nat.beq p 0) else true) && (match x.1.1 with | [] => true | _ :: _ => Nat.blt x.1.2 p)
theorem tp3 : (List.range 38).all (fun p => (CP p).all (okTp p)) = true := by decide +kernel
theorem tp_at {p : Nat} (hp : p < 38) (h0 : 0 < p) {x : MCt} (hx : x ∈ CP p) : (0 < x.1.2 → ∀ k ∈ x.1.1, k < p) ∧ (x.1.1 ≠ [] → x.1.2 < p) := by
  have h1 := tp3
  rw [List.all_eq_true] at h1
  have h2 := h1 p (by simpa using hp)
  rw [List.all_eq_true] at h2
  have h3 := h2 x hx
  unfold okTp at h3
  rw [Bool.and_eq_true] at h3
  refine ⟨fun h k hk => ?_, fun h => ?_⟩
  · have e : Nat.blt 0 x.1.2 = true := Nat.ble_eq_true_of_le h
    have h4 := h3.1
    rw [e, cond_true, List.all_eq_true] at h4
    have h5 := h4 k hk
    rw [Bool.or_eq_true] at h5
    rcases h5 with h5 | h5
    · exact blt_lt h5
    · have := Nat.eq_of_beq_eq_true h5; omega
  · cases he : x.1.1 with
    | nil => exact absurd he h
    | cons a l =>
      have h4 := h3.2
      rw [he] at h4
      exact blt_lt h4

/-! ### the program's inverse -/
def tpI (b a : List Int) (x : MC) : Int := bif Nat.blt 0 x.1.2 then tcI b a x else 0
theorem tpI_bd (b a : List Int) (x : MC) : 0 ≤ tpI b a x ∧ tpI b a x ≤ 10006 := by
  unfold tpI
  cases Nat.blt 0 x.1.2 with
  | true => exact tcI_bd b a x
  | false => simp
def invL (a : List Int) : Nat → List Int
  | 0 => [1]
  | n + 1 => invL a n ++ [(-(sumF (tpI (invL a n) a) (CTab.getD n []))) % 10007]
theorem invL_len (a : List Int) (n : Nat) : (invL a n).length = n + 1 := by
  induction n with
  | zero => rfl
  | succ n ih => simp only [invL, List.length_append, List.length_singleton, ih]
theorem invL_nums (a : List Int) (n : Nat) : Nums (invL a n) := by
  induction n with
  | zero => intro z hz; simp only [invL, List.mem_singleton] at hz; omega
  | succ n ih =>
    intro z hz
    simp only [invL] at hz
    rcases List.mem_append.1 hz with h | h
    · exact ih z h
    · have := List.mem_singleton.1 h
      omega
theorem invL_get (a : List Int) {n m k : Nat} (hk : k ≤ n) (hm : n ≤ m) : (invL a m).getD k 0 = (invL a n).getD k 0 := by
  obtain ⟨d, rfl⟩ := Nat.exists_eq_add_of_le hm
  clear hm
  induction d with
  | zero => rfl
  | succ d ih =>
    rw [← ih]
    show (invL a (n + d + 1)).getD k 0 = _
    rw [invL, List.getD_eq_getElem?_getD, List.getElem?_append_left (by rw [invL_len]; omega), ← List.getD_eq_getElem?_getD]
theorem invL_new (a : List Int) {n m : Nat} (hm : n + 1 ≤ m) : (invL a m).getD (n + 1) 0 = (-(sumF (tpI (invL a n) a) (CTab.getD n []))) % 10007 := by
  rw [invL_get a (Nat.le_refl _) hm, invL, List.getD_eq_getElem?_getD, List.getElem?_append_right (by rw [invL_len]; omega), invL_len, Nat.sub_self]
  rfl
theorem cvT_zero (x y : Nat → Int) : cv x y 0 = y 0 := by
  show sumF (cvT x y) [(([], 0), 1)] = _
  simp [sumF, cvT, pz_nil]
theorem inv_left {a : List Int} (h0 : a.getD 0 0 = 1) : ∀ p, p < 38 → cv (gz (invL a 37)) (gz a) p % 10007 = un p % 10007 := by
  intro p hp
  cases p with
  | zero => rw [cvT_zero]; show a.getD 0 0 % 10007 = _; rw [h0]; rfl
  | succ n =>
    rw [cv_pos _ _ (by omega) hp]
    have e1 : gz a 0 = 1 := h0
    have e2 : gz (invL a 37) (n + 1) = (-(sumF (tpI (invL a n) a) (CTab.getD n []))) % 10007 := invL_new a (by omega)
    have e3 : sumF (posT (gz (invL a 37)) (gz a)) (CP (n + 1)) % 10007 = sumF (tpI (invL a n) a) (CTab.getD n []) % 10007 := by
      refine sumF_modc fun x hx => ?_
      unfold posT tpI
      cases hb : Nat.blt 0 x.1.2 with
      | false => rfl
      | true =>
        rw [cond_true, cond_true, tcI_is, Int.emod_emod_of_dvd _ (Int.dvd_refl _)]
        refine cvT_mod (fun k hk => ?_) rfl
        have := (tp_at hp (by omega) hx).1 (blt_lt hb) k hk
        show (invL a 37).getD k 0 % 10007 = (invL a n).getD k 0 % 10007
        rw [invL_get a (show k ≤ n by omega) (by omega)]
    have e4 : un (n + 1) = 0 := if_neg (by omega)
    rw [e1, e2, e4, Int.mul_one]
    omega

/-! ### the reference's inverse -/
def unM : List Int := filT EX 1
theorem unM_is : unM = 1 :: List.replicate 37 0 := rfl
def refL (a : List Int) : Nat → List Int
  | 0 => unM
  | n + 1 => (refL a n).set (n + 1) ((0 - (cvZ a (refL a n)).getD (n + 1) 0) % 10007)
theorem refL_len (a : List Int) (n : Nat) : (refL a n).length = 38 := by
  induction n with
  | zero => rfl
  | succ n ih => rw [refL, List.length_set, ih]
theorem refL_nums (a : List Int) (n : Nat) : Nums (refL a n) := by
  induction n with
  | zero =>
    intro z hz
    change z ∈ unM at hz
    rw [unM_is] at hz
    rcases List.mem_cons.1 hz with rfl | hz
    · omega
    · have := List.eq_of_mem_replicate hz
      omega
  | succ n ih =>
    intro z hz
    rw [refL] at hz
    rcases List.mem_or_eq_of_mem_set hz with h | h
    · exact ih z h
    · omega
theorem refL_same (a : List Int) {n k : Nat} (h : k ≠ n + 1) : (refL a (n + 1)).getD k 0 = (refL a n).getD k 0 := by
  rw [refL, List.getD_eq_getElem?_getD, List.getElem?_set_ne (by omega), ← List.getD_eq_getElem?_getD]
theorem refL_get (a : List Int) {n m k : Nat} (hk : k ≤ n) (hm : n ≤ m) : (refL a m).getD k 0 = (refL a n).getD k 0 := by
  obtain ⟨d, rfl⟩ := Nat.exists_eq_add_of_le hm
  clear hm
  induction d with
  | zero => rfl
  | succ d ih =>
    rw [← ih]
    exact refL_same a (show k ≠ n + d + 1 by omega)
theorem refL_zero (a : List Int) {n k : Nat} (hk : n < k) : (refL a n).getD k 0 = 0 := by
  induction n with
  | zero =>
    show unM.getD k 0 = 0
    rw [unM_is]
    obtain ⟨j, rfl⟩ : ∃ j, k = j + 1 := ⟨k - 1, by omega⟩
    rw [List.getD_cons_succ, List.getD_eq_getElem?_getD, List.getElem?_replicate]
    split <;> rfl
  | succ n ih => rw [refL_same a (by omega)]; exact ih (by omega)
theorem refL_head (a : List Int) (n : Nat) : (refL a n).getD 0 0 = 1 := refL_get a (Nat.le_refl 0) (Nat.zero_le n)
theorem refL_new (a : List Int) {n m : Nat} (h : n < 37) (hm : n + 1 ≤ m) : (refL a m).getD (n + 1) 0 = (0 - (cvZ a (refL a n)).getD (n + 1) 0) % 10007 := by
  rw [refL_get a (Nat.le_refl _) hm, refL, List.getD_eq_getElem?_getD, List.getElem?_set_self (by rw [refL_len]; omega)]
  rfl
theorem inv_right (a : List Int) : ∀ p, p < 38 → cv (gz a) (gz (refL a 37)) p % 10007 = un p % 10007 := by
  intro p hp
  cases p with
  | zero => rw [cvT_zero]; show (refL a 37).getD 0 0 % 10007 = _; rw [refL_head]; rfl
  | succ n =>
    rw [cv_rest _ _ hp]
    have e1 : (cvZ a (refL a n)).getD (n + 1) 0 = sumF (tcI a (refL a n)) (CTab.getD n []) % 10007 := by
      rw [List.getD_eq_getElem?_getD, cvZ_get a _ (by omega)]; rfl
    have e2 : gz (refL a 37) (n + 1) = (0 - (cvZ a (refL a n)).getD (n + 1) 0) % 10007 := refL_new a (by omega) (by omega)
    have e3 : sumF (tcI a (refL a n)) (CTab.getD n []) % 10007 = cv (gz a) (gz (refL a n)) (n + 1) % 10007 := by
      show _ = sumF (cvT (gz a) (gz (refL a n))) (CTab.getD n []) % 10007
      refine sumF_modc fun x hx => ?_
      rw [tcI_is, Int.emod_emod_of_dvd _ (Int.dvd_refl _)]
    have e4 : gz (refL a n) (n + 1) = 0 := refL_zero a (by omega)
    rw [cv_rest _ _ hp, e4] at e3
    have e5 : sumF (posE (gz a) (gz (refL a 37))) (CP (n + 1)) % 10007 = sumF (posE (gz a) (gz (refL a n))) (CP (n + 1)) % 10007 := by
      refine sumF_modc fun x hx => ?_
      unfold posE
      cases hcr : x.1.1 with
      | nil => rfl
      | cons u us =>
        refine cvT_mod (fun k _ => rfl) ?_
        have := (tp_at hp (by omega) hx).2 (by rw [hcr]; simp)
        show (refL a 37).getD x.1.2 0 % 10007 = (refL a n).getD x.1.2 0 % 10007
        rw [refL_get a (show x.1.2 ≤ n by omega) (by omega)]
    have e6 : un (n + 1) = 0 := if_neg (by omega)
    rw [e2, e1, e6]
    omega
theorem nums_getD {zs : List Int} (h : Nums zs) (k : Nat) : 0 ≤ zs.getD k 0 ∧ zs.getD k 0 ≤ 10006 := by
  rw [List.getD_eq_getElem?_getD]
  cases hk : zs[k]? with
  | none => simp
  | some z => exact h z (List.mem_of_getElem? hk)
/-- both inverses are one -/
theorem inv_eq {a : List Int} (h0 : a.getD 0 0 = 1) : invL a 37 = refL a 37 := by
  have h := inv_both (a := gz a) (x := gz (invL a 37)) (y := gz (refL a 37)) h0 (by show (invL a 37).getD 0 0 = 1; rw [invL_get a (Nat.le_refl 0) (by omega)]; rfl) (inv_left h0) (inv_right a)
  refine List.ext_getElem? fun k => ?_
  by_cases hk : k < 38
  · have h1 := h k hk
    have b1 := nums_getD (invL_nums a 37) k
    have b2 := nums_getD (refL_nums a 37) k
    have h2 : (invL a 37).getD k 0 = (refL a 37).getD k 0 := by
      have h3 : (invL a 37).getD k 0 % 10007 = (refL a 37).getD k 0 % 10007 := h1
      omega
    rw [List.getD_eq_getElem?_getD, List.getD_eq_getElem?_getD] at h2
    have hk1 : k < (invL a 37).length := by rw [invL_len]; exact hk
    have hk2 : k < (refL a 37).length := by rw [refL_len]; exact hk
    rw [List.getElem?_eq_getElem hk1, List.getElem?_eq_getElem hk2] at h2 ⊢
    simpa using h2
  · rw [List.getElem?_eq_none (by rw [invL_len]; omega), List.getElem?_eq_none (by rw [refL_len]; omega)]

/-! ### scaled maps -/
def scZ (a : List Int) (k : Int) : List Int := (List.range 38).map fun j => a.getD j 0 * pw k (szN j) % 10007
theorem scZ_len (a : List Int) (k : Int) : (scZ a k).length = 38 := by simp [scZ]
theorem scZ_nums (a : List Int) (k : Int) : Nums (scZ a k) := by
  intro z hz
  obtain ⟨j, -, rfl⟩ := List.mem_map.1 hz
  omega
theorem scZ_get (a : List Int) (k : Int) {i : Nat} (h : i < 38) : (scZ a k)[i]? = some (a.getD i 0 * pw k (szN i) % 10007) := by
  unfold scZ
  simp [h]
theorem scZ_head {a : List Int} (h : Nums a) (k : Int) : (scZ a k).getD 0 0 = a.getD 0 0 := by
  have := nums_getD h 0
  have hp : pw k (szN 0) = 1 := by rw [szN_zero]; simp [pw]
  rw [List.getD_eq_getElem?_getD, scZ_get a k (by omega), hp, Int.mul_one]
  show a.getD 0 0 % 10007 = _
  omega
end Go.Proofs.YtdjhfeaimmpmhaaGreat

set_option maxRecDepth 100000
set_option linter.unusedVariables false
set_option linter.unusedSimpArgs false
namespace Go.Proofs.YtdjhfeaimmpmhaaGreat
open Go.RowKit

theorem unM_len : unM.length = 38 := rfl
theorem unM_nums : Nums unM := refL_nums [] 0
end Go.Proofs.YtdjhfeaimmpmhaaGreat

set_option maxRecDepth 100000
set_option linter.unusedVariables false
set_option linter.unusedSimpArgs false
namespace Go.Proofs.YtdjhfeaimmpmhaaGreat
open Go.RowKit

/-- a character: 38 numbers, the first of them 1 -/
structure Chr (a : List Int) : Prop where
  len : a.length = 38
  num : Nums a
  one : a.getD 0 0 = 1
theorem chr_cvZ {a b : List Int} (ha : Chr a) (hb : Chr b) : Chr (cvZ a b) := ⟨cvZ_len _ _, cvZ_nums hb.num, hb.one⟩
def iv (a : List Int) : List Int := invL a 37
theorem iv_head (a : List Int) : (iv a).getD 0 0 = 1 := by unfold iv; rw [invL_get a (Nat.zero_le 0) (Nat.zero_le 37)]; rfl
theorem chr_iv (a : List Int) : Chr (iv a) := ⟨invL_len _ _, invL_nums _ _, iv_head a⟩
theorem chr_scZ {a : List Int} (ha : Chr a) (k : Int) : Chr (scZ a k) := ⟨scZ_len _ _, scZ_nums _ _, by rw [scZ_head ha.num, ha.one]⟩
theorem unM_gz {p : Nat} (hp : p < 38) : gz unM p = un p := by
  have h1 : (List.range 38).all (fun p => decide (gz unM p = un p)) = true := by decide +kernel
  rw [List.all_eq_true] at h1
  exact of_decide_eq_true (h1 p (List.mem_range.2 hp))
theorem cvZ_assoc {a b c : List Int} (hb : b.getD 0 0 = 1) (hc : Nums c) : cvZ (cvZ a b) c = cvZ a (cvZ b c) := by
  refine nums_ext (cvZ_nums hc) (cvZ_nums (cvZ_nums hc)) (cvZ_len _ _) (cvZ_len _ _) fun p hp => ?_
  rw [cvZ_cv _ _ hp, cvZ_cv _ _ hp]
  rw [cv_mod (a := gz (cvZ a b)) (a' := cv (gz a) (gz b)) (b := gz c) (b' := gz c) hp (fun k hk => cvZ_cv a b (by omega)) (fun k _ => rfl)]
  rw [cv_mod (a := gz a) (a' := gz a) (b := gz (cvZ b c)) (b' := cv (gz b) (gz c)) hp (fun k _ => rfl) (fun k hk => cvZ_cv b c (by omega))]
  rw [cv_assoc hb hp]
theorem cvZ_unL {a : List Int} (ha : Nums a) (la : a.length = 38) : cvZ unM a = a := by
  refine nums_ext (cvZ_nums ha) ha (cvZ_len _ _) la fun p hp => ?_
  rw [cvZ_cv _ _ hp, cv_mod (a := gz unM) (a' := un) (b := gz a) (b' := gz a) hp (fun k hk => by rw [unM_gz (by omega)]) (fun k _ => rfl), cv_unL _ hp]
theorem cvZ_unR {a : List Int} (ha : Chr a) : cvZ a unM = a := by
  refine nums_ext (cvZ_nums unM_nums) ha.num (cvZ_len _ _) ha.len fun p hp => ?_
  rw [cvZ_cv _ _ hp, cv_mod (a := gz a) (a' := gz a) (b := gz unM) (b' := un) hp (fun k _ => rfl) (fun k hk => by rw [unM_gz (by omega)]), cv_unR _ ha.one hp]
theorem iv_left {a : List Int} (ha : Chr a) : cvZ (iv a) a = unM := by
  refine nums_ext (cvZ_nums ha.num) unM_nums (cvZ_len _ _) unM_len fun p hp => ?_
  rw [cvZ_cv _ _ hp, unM_gz hp]
  exact inv_left ha.one p hp
theorem iv_right {a : List Int} (ha : Chr a) : cvZ a (iv a) = unM := by
  refine nums_ext (cvZ_nums (chr_iv a).num) unM_nums (cvZ_len _ _) unM_len fun p hp => ?_
  rw [cvZ_cv _ _ hp, unM_gz hp]
  unfold iv
  rw [inv_eq ha.one]
  exact inv_right a p hp
theorem iv_unique {x a : List Int} (hx : Chr x) (ha : Chr a) (h : cvZ x a = unM) : x = iv a := by
  have e : cvZ (cvZ x a) (iv a) = iv a := by rw [h]; exact cvZ_unL (chr_iv a).num (chr_iv a).len
  rw [cvZ_assoc ha.one (chr_iv a).num, iv_right ha, cvZ_unR hx] at e
  exact e
theorem iv_iv {a : List Int} (ha : Chr a) : iv (iv a) = a := (iv_unique ha (chr_iv a) (iv_right ha)).symm
theorem iv_mul {a b : List Int} (ha : Chr a) (hb : Chr b) : iv (cvZ a b) = cvZ (iv b) (iv a) := by
  refine (iv_unique (chr_cvZ (chr_iv b) (chr_iv a)) (chr_cvZ ha hb) ?_).symm
  rw [cvZ_assoc (chr_iv a).one (cvZ_nums hb.num), ← cvZ_assoc ha.one hb.num, iv_left ha, cvZ_unL hb.num hb.len, iv_left hb]
/-! ### scaling -/
theorem scZ_gz (a : List Int) (k : Int) {p : Nat} (hp : p < 38) : gz (scZ a k) p % 10007 = scV k (gz a) p % 10007 := by
  show (scZ a k).getD p 0 % 10007 = a.getD p 0 * k ^ szT p % 10007
  rw [List.getD_eq_getElem?_getD, scZ_get a k hp, szT_is hp]
  show a.getD p 0 * pw k (szN p) % 10007 % 10007 = _
  unfold pw
  rw [mul_modR, Int.emod_emod_of_dvd _ (Int.dvd_refl _)]
theorem scZ_cvZ {a b : List Int} (ha : Chr a) (hb : Chr b) (k : Int) : scZ (cvZ a b) k = cvZ (scZ a k) (scZ b k) := by
  refine nums_ext (scZ_nums _ _) (cvZ_nums (scZ_nums _ _)) (scZ_len _ _) (cvZ_len _ _) fun p hp => ?_
  rw [scZ_gz _ _ hp, cvZ_cv _ _ hp, cv_mod (a := gz (scZ a k)) (a' := scV k (gz a)) (b := gz (scZ b k)) (b' := scV k (gz b)) hp (fun q hq => scZ_gz a k (by omega)) (fun q hq => scZ_gz b k (by omega)), cv_scV k _ _ hp]
  unfold scV
  rw [Int.mul_emod, cvZ_cv a b hp, ← Int.mul_emod]
theorem scZ_unM (k : Int) : scZ unM k = unM := by
  refine nums_ext (scZ_nums _ _) unM_nums (scZ_len _ _) unM_len fun p hp => ?_
  rw [scZ_gz _ _ hp, unM_gz hp]
  unfold scV
  rw [unM_gz hp]
  unfold un
  by_cases h : p = 0
  · subst h; rw [show szT 0 = 0 from rfl, Int.pow_zero, Int.mul_one]
  · rw [if_neg h, Int.zero_mul]
theorem scZ_iv {a : List Int} (ha : Chr a) (k : Int) : scZ (iv a) k = iv (scZ a k) := by
  refine iv_unique (chr_scZ (chr_iv a) k) (chr_scZ ha k) ?_
  rw [← scZ_cvZ (chr_iv a) ha, iv_left ha, scZ_unM]
theorem pow_comm' (x j k : Int) (n : Nat) : x * j ^ n * k ^ n = x * k ^ n * j ^ n := by rw [Int.mul_assoc, Int.mul_assoc, Int.mul_comm (j ^ n)]
theorem scZ_comm (a : List Int) (j k : Int) : scZ (scZ a j) k = scZ (scZ a k) j := by
  refine nums_ext (scZ_nums _ _) (scZ_nums _ _) (scZ_len _ _) (scZ_len _ _) fun p hp => ?_
  rw [scZ_gz _ _ hp, scZ_gz _ _ hp]
  unfold scV
  rw [Int.mul_emod, scZ_gz a j hp, ← Int.mul_emod, Int.mul_emod (gz (scZ a k) p), scZ_gz a k hp, ← Int.mul_emod]
  unfold scV
  rw [pow_comm']
theorem sq_one (n : Nat) : (10006 : Int) ^ n * (10006 : Int) ^ n % 10007 = 1 := by
  induction n with
  | zero => rfl
  | succ n ih =>
    have e : (10006 : Int) ^ (n + 1) * (10006 : Int) ^ (n + 1) = (10006 * 10006) * ((10006 : Int) ^ n * (10006 : Int) ^ n) := by
      rw [Int.pow_succ]
      simp only [Int.mul_assoc, Int.mul_left_comm, Int.mul_comm]
    rw [e, Int.mul_emod, ih]
    rfl
theorem scZ_twice {a : List Int} (ha : Chr a) : scZ (scZ a 10006) 10006 = a := by
  refine nums_ext (scZ_nums _ _) ha.num (scZ_len _ _) ha.len fun p hp => ?_
  rw [scZ_gz _ _ hp]
  unfold scV
  rw [Int.mul_emod, scZ_gz a 10006 hp, ← Int.mul_emod]
  unfold scV
  rw [Int.mul_assoc, Int.mul_emod, sq_one, Int.mul_one, Int.emod_emod_of_dvd _ (Int.dvd_refl _)]
/-! ### adjoints -/
def adjL (a : List Int) : List Int := iv (scZ a 10006)
theorem chr_adjL (a : List Int) : Chr (adjL a) := chr_iv _
theorem adjL_twice {a : List Int} (ha : Chr a) : adjL (adjL a) = a := by
  unfold adjL
  rw [scZ_iv (chr_scZ ha _), scZ_twice ha, iv_iv ha]
theorem adjL_mul {a b : List Int} (ha : Chr a) (hb : Chr b) : adjL (cvZ a b) = cvZ (adjL b) (adjL a) := by
  unfold adjL
  rw [scZ_cvZ ha hb, iv_mul (chr_scZ ha _) (chr_scZ hb _)]
def symL (a : List Int) (h : Int) : List Int := cvZ (scZ a h) (scZ (adjL a) h)
theorem adjL_sym {a : List Int} (ha : Chr a) (h : Int) : adjL (symL a h) = symL a h := by
  unfold symL
  rw [adjL_mul (chr_scZ ha h) (chr_scZ (chr_adjL a) h)]
  have e1 : adjL (scZ (adjL a) h) = scZ a h := by
    unfold adjL
    rw [scZ_comm (iv (scZ a 10006)) h 10006, scZ_iv (chr_scZ ha _), scZ_twice ha, scZ_iv ha, iv_iv (chr_scZ ha h)]
  have e2 : adjL (scZ a h) = scZ (adjL a) h := by
    unfold adjL
    rw [scZ_comm a h 10006, scZ_iv (chr_scZ ha _)]
  rw [e1, e2]
end Go.Proofs.YtdjhfeaimmpmhaaGreat

set_option maxRecDepth 100000
set_option linter.unusedVariables false
set_option linter.unusedSimpArgs false
namespace Go.Proofs.YtdjhfeaimmpmhaaGreat
open Go.RowKit

/-- the exponential as a list of numbers -/
def expZ (b : List Int) : List Int := (List.range 38).map fun p => eV (gz b) 6 p % 10007
theorem expZ_len (b : List Int) : (expZ b).length = 38 := by simp [expZ]
theorem expZ_nums (b : List Int) : Nums (expZ b) := by
  intro z hz
  obtain ⟨p, -, rfl⟩ := List.mem_map.1 hz
  omega
theorem expZ_gz (b : List Int) {p : Nat} (hp : p < 38) : gz (expZ b) p = eV (gz b) 6 p % 10007 := by
  show (expZ b).getD p 0 = _
  unfold expZ
  simp [List.getD_eq_getElem?_getD, hp]
theorem eV_zero (x : Nat → Int) : eV x 6 0 % 10007 = 1 := by rw [eV_pv x (by omega)]; rfl
/-- the logarithm: at the trees with one node more -/
def lgS (a : List Int) : Nat → List Int
  | 0 => List.replicate 38 0
  | n + 1 => (List.range 38).map fun p => if szT p = n + 1 then (a.getD p 0 - (expZ (lgS a n)).getD p 0) % 10007 else (lgS a n).getD p 0
def lgZ (a : List Int) : List Int := lgS a 6
theorem lgS_len (a : List Int) (n : Nat) : (lgS a n).length = 38 := by cases n <;> simp [lgS]
theorem lgS_nums (a : List Int) (n : Nat) : Nums (lgS a n) := by
  induction n with
  | zero => intro z hz; have := List.eq_of_mem_replicate hz; omega
  | succ n ih =>
    intro z hz
    obtain ⟨p, -, rfl⟩ := List.mem_map.1 hz
    split
    · omega
    · exact getD_nums ih p
theorem lgS_get (a : List Int) (n : Nat) {p : Nat} (hp : p < 38) : (lgS a (n + 1)).getD p 0 = if szT p = n + 1 then (a.getD p 0 - (expZ (lgS a n)).getD p 0) % 10007 else (lgS a n).getD p 0 := by
  rw [lgS]
  simp [List.getD_eq_getElem?_getD, hp]
theorem lgS_zero (a : List Int) {p : Nat} (hp : p < 38) : (lgS a 0).getD p 0 = 0 := by
  rw [lgS, List.getD_eq_getElem?_getD, List.getElem?_replicate, if_pos hp]; rfl
theorem szT_pos {p : Nat} (h0 : 0 < p) (hp : p < 38) : 1 ≤ szT p := by
  obtain ⟨q, rfl⟩ : ∃ q, p = q + 1 := ⟨p - 1, by omega⟩
  rw [szT_is hp]
  exact szN_pos (by omega)
theorem szT_le {p : Nat} (hp : p < 38) : szT p ≤ 6 := by rw [szT_is hp]; exact szN_le p
theorem lgS_head (a : List Int) (n : Nat) : (lgS a n).getD 0 0 = 0 := by
  induction n with
  | zero => exact lgS_zero a (by omega)
  | succ n ih => rw [lgS_get a n (by omega), if_neg (by show ¬ 0 = n + 1; omega)]; exact ih
/-- greater trees have nothing yet -/
theorem lgS_great (a : List Int) : ∀ (n : Nat) {p : Nat}, p < 38 → n < szT p → (lgS a n).getD p 0 = 0
  | 0, p, hp, _ => lgS_zero a hp
  | n + 1, p, hp, h => by rw [lgS_get a n hp, if_neg (by omega)]; exact lgS_great a n hp (by omega)
/-- smaller trees stay -/
theorem lgS_stay (a : List Int) {n m : Nat} (h : n ≤ m) {p : Nat} (hp : p < 38) (hs : szT p ≤ n) : (lgS a m).getD p 0 = (lgS a n).getD p 0 := by
  obtain ⟨d, rfl⟩ := Nat.exists_eq_add_of_le h
  clear h
  induction d with
  | zero => rfl
  | succ d ih =>
    rw [show n + (d + 1) = (n + d) + 1 by omega, lgS_get a (n + d) hp, if_neg (by omega)]
    exact ih
/-- the exponential of the logarithm -/
theorem exp_lgZ {a : List Int} (ha : Chr a) : expZ (lgZ a) = a := by
  refine nums_ext (expZ_nums _) ha.num (expZ_len _) ha.len fun p hp => ?_
  rw [expZ_gz _ hp, Int.emod_emod_of_dvd _ (Int.dvd_refl _)]
  by_cases h0 : 0 < p
  · obtain ⟨n, hn⟩ : ∃ n, szT p = n + 1 := ⟨szT p - 1, by have := szT_pos h0 hp; omega⟩
    have h6 := szT_le hp
    have e := eV_part (x := gz (lgZ a)) (y := gz (lgS a n)) (p := p) h0 hp fun k hk hs => by
      show (lgS a 6).getD k 0 % 10007 = (lgS a n).getD k 0 % 10007
      rw [lgS_stay a (show n ≤ 6 by omega) hk (by omega)]
    have e1 : gz (lgS a n) p = 0 := lgS_great a n hp (by omega)
    have e2 : gz (lgZ a) p = (a.getD p 0 - (expZ (lgS a n)).getD p 0) % 10007 := by
      show (lgS a 6).getD p 0 = _
      rw [lgS_stay a (show n + 1 ≤ 6 by omega) hp (by omega), lgS_get a n hp, if_pos hn]
    have e3 : (expZ (lgS a n)).getD p 0 = eV (gz (lgS a n)) 6 p % 10007 := expZ_gz _ hp
    rw [e3] at e2
    show _ = a.getD p 0 % 10007
    omega
  · have : p = 0 := by omega
    subst this
    rw [eV_zero]
    show _ = a.getD 0 0 % 10007
    rw [ha.one]
    rfl
theorem lgZ_len (a : List Int) : (lgZ a).length = 38 := lgS_len a 6
theorem lgZ_nums (a : List Int) : Nums (lgZ a) := lgS_nums a 6
theorem lgZ_head (a : List Int) : (lgZ a).getD 0 0 = 0 := lgS_head a 6
/-- what has the exponential is the logarithm -/
theorem lgZ_unique {a : List Int} (ha : Chr a) {x : Nat → Int} (h0 : x 0 % 10007 = 0) (h : ∀ p, p < 38 → eV x 6 p % 10007 = gz a p % 10007) : ∀ p, p < 38 → gz (lgZ a) p % 10007 = x p % 10007 := by
  refine eV_inj (by show (lgZ a).getD 0 0 % 10007 = _; rw [lgZ_head, h0]; rfl) fun p hp => ?_
  have e := exp_lgZ ha
  have e2 := expZ_gz (lgZ a) hp
  rw [e] at e2
  rw [h p hp, e2, Int.emod_emod_of_dvd _ (Int.dvd_refl _)]
/-- the logarithm of the inverse is the opposite one -/
theorem lgZ_iv {a : List Int} (ha : Chr a) : ∀ p, p < 38 → gz (lgZ (iv a)) p % 10007 = (- gz (lgZ a) p) % 10007 := by
  let x : Nat → Int := gz (lgZ a)
  let y : List Int := (List.range 38).map fun p => eV (fun k => - x k) 6 p % 10007
  have hy : ∀ p, p < 38 → gz y p = eV (fun k => - x k) 6 p % 10007 := fun p hp => by
    show ((List.range 38).map fun p => eV (fun k => - x k) 6 p % 10007).getD p 0 = _
    simp [List.getD_eq_getElem?_getD, hp]
  have cy : Chr y := by
    refine ⟨by simp [y], fun z hz => ?_, ?_⟩
    · obtain ⟨p, -, rfl⟩ := List.mem_map.1 hz
      omega
    · have h := hy 0 (by omega)
      rw [eV_zero] at h
      exact h
  have e1 : cvZ y a = unM := by
    refine nums_ext (cvZ_nums ha.num) unM_nums (cvZ_len _ _) unM_len fun p hp => ?_
    rw [cvZ_cv _ _ hp, unM_gz hp, ← exp_neg x hp]
    refine cv_mod hp (fun k hk => ?_) fun k hk => ?_
    · rw [hy k (by omega), Int.emod_emod_of_dvd _ (Int.dvd_refl _)]
    · have e := exp_lgZ ha
      have e2 := expZ_gz (lgZ a) (p := k) (by omega)
      rw [e] at e2
      rw [e2, Int.emod_emod_of_dvd _ (Int.dvd_refl _)]
  have e2 : y = iv a := iv_unique cy ha e1
  refine lgZ_unique (chr_iv a) (x := fun k => - x k) ?_ fun p hp => ?_
  · show (- (lgZ a).getD 0 0) % 10007 = 0
    rw [lgZ_head]
    rfl
  · rw [← e2, hy p hp, Int.emod_emod_of_dvd _ (Int.dvd_refl _)]
/-- the logarithm of a scaled character -/
theorem lgZ_scZ {a : List Int} (ha : Chr a) (k : Int) : ∀ p, p < 38 → gz (lgZ (scZ a k)) p % 10007 = scV k (gz (lgZ a)) p % 10007 := by
  refine lgZ_unique (chr_scZ ha k) ?_ fun p hp => ?_
  · show (lgZ a).getD 0 0 * k ^ szT 0 % 10007 = 0
    rw [lgZ_head, Int.zero_mul]
    rfl
  · rw [eV_scV k _ hp, scZ_gz a k hp]
    unfold scV
    have e := exp_lgZ ha
    have e2 := expZ_gz (lgZ a) hp
    rw [e] at e2
    rw [Int.mul_emod, Int.mul_emod (gz a p), e2, Int.emod_emod_of_dvd _ (Int.dvd_refl _)]
/-- the logarithm of the adjoint and that of the character, scaled by -1, are 0 together -/
theorem lgZ_adj {a : List Int} (ha : Chr a) : ∀ p, p < 38 → (gz (lgZ (adjL a)) p + gz (scZ (lgZ a) 10006) p) % 10007 = 0 := by
  intro p hp
  have e1 := lgZ_iv (chr_scZ ha 10006) p hp
  have e2 := lgZ_scZ ha 10006 p hp
  have e3 := scZ_gz (lgZ a) 10006 hp
  show (gz (lgZ (iv (scZ a 10006))) p + gz (scZ (lgZ a) 10006) p) % 10007 = 0
  omega
end Go.Proofs.YtdjhfeaimmpmhaaGreat

