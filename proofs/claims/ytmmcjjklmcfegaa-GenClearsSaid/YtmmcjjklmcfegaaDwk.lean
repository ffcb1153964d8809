/- A script's step 'work'. Plain. -/
import Derived.Test.YtmmcjjklmcfegaaBase1
namespace Go.Proofs.Ytmmcjjklmcfegaa

def dWk : Dd := ⟨8, 0, 0, 0, 0⟩
def dSw : Dd := ⟨9, 0, 0, 0, 0⟩
end Go.Proofs.Ytmmcjjklmcfegaa
