/- The program's changes of two trees. -/
import Derived.Test.YtphgnbjikgglmaaGF
import Derived.Test.YtphgnbjikgglmaaGF
import Derived.Test.YtphgnbjikgglmaaGF
import Derived.Test.YtphgnbjikgglmaaGH
set_option linter.all false
namespace Go.Sf
open Go Go.RowKit Go.Proofs
end Go.Sf
