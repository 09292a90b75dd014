/- The draw of items and tests. The condition: at most 999900 numbers have been drawn. -/
import Derived.Test.YtdoadigekmlnpaaDraw
import Derived.Test.YtdoadigekmlnpaaDigits
namespace Go.Proofs.Ytdoadigekmlnpaa
open Go.RowKit
open BigFrame

end Go.Proofs.Ytdoadigekmlnpaa
