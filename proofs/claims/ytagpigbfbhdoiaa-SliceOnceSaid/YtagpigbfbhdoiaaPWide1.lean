/- The natives of numbers, as the document has them (and, or, xor, less, zero). -/
import Derived.Test.YtagpigbfbhdoiaaPSpec
import Derived.Test.YtagpigbfbhdoiaaW
namespace Go.Fn
open Go Go.Vi

theorem wide_and (x y : W128) : wide_And (Wd x) (Wd y) = Wd (x &&& y) := Wd_and x y
theorem wide_or (x y : W128) : wide_Or (Wd x) (Wd y) = Wd (x ||| y) := Wd_or x y
theorem wide_xor (x y : W128) : wide_Xor (Wd x) (Wd y) = Wd (x ^^^ y) := Wd_xor x y
theorem wide_less (x y : W128) : wide_Less (Wd x) (Wd y) = Wd (x &&& ~~~y) := Wd_less x y
theorem wide_zero (x : W128) : wide_Zero (Wd x) = (x == 0#128) := Wd_zero x
theorem ref02_and (x y : W128) : ref02_And (Wd x) (Wd y) = Wd (x &&& y) := Wd_and x y
theorem ref02_or (x y : W128) : ref02_Or (Wd x) (Wd y) = Wd (x ||| y) := Wd_or x y
theorem ref02_xor (x y : W128) : ref02_Xor (Wd x) (Wd y) = Wd (x ^^^ y) := Wd_xor x y
theorem ref02_less (x y : W128) : ref02_Less (Wd x) (Wd y) = Wd (x &&& ~~~y) := Wd_less x y
theorem ref02_zero (x : W128) : ref02_Zero (Wd x) = (x == 0#128) := Wd_zero' x
end Go.Fn
