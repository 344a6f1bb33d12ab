/- hustingslaw19.awake: the examples are as they are told. -/
import Derived.Test.YtnpmimjhpnhdkaaRep10
namespace Go.Proofs.Ytnpmimjhpnhdkaa
open Go.RowKit

def aw0 : BookS := newB 3 95 10
def aw1 : BookS := aw0.dissentI 0 4
def aw2 : BookS := aw1.dissentI 1 5
def aw3 : BookS := aw2.back 13
def aw4 : BookS := aw3.back 14
def agN : Nat → BookS → BookS
  | 0, s => s
  | k + 1, s => (agN k s).agreeI 0

end Go.Proofs.Ytnpmimjhpnhdkaa
