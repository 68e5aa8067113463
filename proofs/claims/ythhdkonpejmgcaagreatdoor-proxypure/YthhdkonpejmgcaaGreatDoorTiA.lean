/-
  The program's tie, in parts.
-/
import Derived.Test.YthhdkonpejmgcaaGreatDoorRows
import Derived.LaidByTextLater
import Derived.SevenTiedAt
import Derived.LaidSub
import Derived.LaidOnce
namespace Go.Proofs.YthhdkonpejmgcaaGreatDoor.ties
open Go Go.Proofs
set_option maxRecDepth 100000
def laidAll : List (String × DataW Unit) := [("math/bits.deBruijn32tab", Rows.laid_math_bits_deBruijn32tab), ("math/bits.deBruijn64tab", Rows.laid_math_bits_deBruijn64tab), ("internal/strconv.uint64pow10", Rows.laid_internal_strconv_uint64pow10), ("unicode/utf8.acceptRanges", Rows.laid_unicode_utf8_acceptRanges), ("strconv.ErrRange", Rows.laid_strconv_ErrRange), ("strconv.ErrSyntax", Rows.laid_strconv_ErrSyntax), ("unicode.White_Space", Rows.laid_unicode_White_Space), ("strings.asciiSpace", Rows.laid_strings_asciiSpace), ("sluicegate/proxy.killed", Rows.laid_sluicegate_proxy_killed)]
def kindsAll : List LaidKind := [.data, .data, .data, .data, .sentinel, .sentinel, .listed, .data, .data]
theorem tw : Tryz.prog.worded (varsWordLater true) = true := by kernel_rfl
theorem tw' : Tryz.prog.worded (varsWordLater !true) = false := by kernel_rfl
theorem troot : Tryz.prog.worded rootWordLater = true := by kernel_rfl
theorem tk : laidAll.map (fun x => Tryz.prog.kindOfLater x.1) = kindsAll.map some := by kernel_rfl
theorem tg : Tryz.prog.funcNamed "gosem.cut.vars" = some 821 := by kernel_rfl
end Go.Proofs.YthhdkonpejmgcaaGreatDoor.ties
