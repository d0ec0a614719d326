/- The tables of unicode/utf8 lie in the witness world as the rows list them. -/
import Derived.Test.YtdbihpobfcbmeaaDoorBF
namespace Go.Proofs.YtdbihpobfcbmeaaDoor
namespace B
open Go Go.RowKit Go.ChangeShapes Go.WideShapes Go.ChangeAt

abbrev utf8Laid : List (String × DataW Unit) := [("unicode/utf8.acceptRanges", Rows.laid_unicode_utf8_acceptRanges), ("unicode/utf8.first", Rows.laid_unicode_utf8_first)]
theorem laid_utf8 (os : Os) : laidMet Tryd.prog utf8Laid (layW os utf8Laid) := laidMet_of_run' 8 (by kernel_rfl) (by kernel_rfl)
end B
end Go.Proofs.YtdbihpobfcbmeaaDoor
