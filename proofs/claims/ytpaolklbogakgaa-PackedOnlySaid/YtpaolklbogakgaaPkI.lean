import Derived.Test.YtpaolklbogakgaaPkG
set_option linter.unusedSimpArgs false
set_option linter.unusedVariables false
namespace Go.Proofs.Ytpaolklbogakgaa
open Go.Ev

end Go.Proofs.Ytpaolklbogakgaa

namespace Go.Proofs.Ytpaolklbogakgaa
open Go.Ev

end Go.Proofs.Ytpaolklbogakgaa
