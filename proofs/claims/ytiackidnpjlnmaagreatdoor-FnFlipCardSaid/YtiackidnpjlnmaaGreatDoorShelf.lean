/-
 DERIVED: THE SHELF's CONTRACTS AT THIS DUMP, IN PLAIN WORDS (tools/lay-plain.mjs out of 'TryzSh0.lean', which tools/lay-shelf.mjs wrote): THE SAME DECLARATIONS UNDER THE SAME NAMES: 'import', 'namespace', 'open', 'def', 'theorem' AND NOTHING ELSE: no command of the shelf's: FOR A HAND-IN. Each laying: the table of numbers ('.._ren') and one theorem, a field a fact of the dump's own or the kernel's comparison; each contract: ONE APPLICATION.
-/
import Derived.Shelf.Strings.Builder1
import Derived.Shelf.Strings.Builder2
import Derived.Shelf.Strings.OnBuilder
import Derived.Shelf.Strings.BuilderF
import Derived.Shelf.Strconv.Atoi
import Derived.Shelf.Strconv.Itoa0
import Derived.Shelf.Strconv.Itoa1
import Derived.Shelf.LaysM
import Derived.Shelf.Strconv.Itoa2
import Derived.Shelf.Strconv.Itoa3
import Derived.Shelf.Strconv.AtoiErrFast
import Derived.Shelf.Strconv.ParseIntEmpty
import Derived.Shelf.Strconv.AtoiFail
import Derived.Shelf.Strconv.Clone
import Derived.Shelf.Strconv.SyntaxError
import Derived.Shelf.LaysC
import Derived.Shelf.Strconv.ToError
import Derived.Shelf.Strconv.Lower
import Derived.Shelf.Strconv.ParseUint10
import Derived.Shelf.Strconv.ParseUint10Empty
import Derived.Shelf.Strconv.ParseUint10Any
import Derived.Shelf.Strconv.ParseInt10
import Derived.Shelf.Strconv.AtoiLong
import Derived.Shelf.Strconv.AtoiInnerAll
import Derived.Shelf.Strconv.RangeError
import Derived.Shelf.Strconv.ToErrorRange
import Derived.Shelf.Strconv.AtoiAll
import Derived.Shelf.Strings.Search1
import Derived.Shelf.Strings.Search2
import Derived.Shelf.Strings.Cut
import Derived.Shelf.Strings.Shaped
import Derived.Test.YtiackidnpjlnmaaGreatDoorProg
namespace Go.Proofs
open Go.Shelf
def Tryz.lays156_ren:Go.Shelf.Ren:=⟨fun|156=>36|165=>71|166=>72|169=>73|240=>110|241=>111|276=>148|277=>149|n=>n,fun|31=>25|9=>9|3=>3|4=>4|0=>0|20=>20|72=>136|76=>140|70=>134|37=>22|75=>139|127=>182|164=>212|5=>5|80=>142|n=>n,fun|n=>n⟩
theorem Tryz.lays156:Go.Proofs.Lays.n156 Tryz.prog Tryz.lays156_ren:=by
 repeat' first|kernel_rfl|(intro _;kernel_rfl)|decide|constructor
theorem Tryz.Builder_Extra_156:Builder.Extra Tryz.prog Tryz.lays156_ren:=by
 repeat' first|kernel_rfl|(intro _;kernel_rfl)|decide|constructor
def Tryz.laysM171_ren:Go.Shelf.Ren:=⟨fun|171=>147|243=>179|246=>213|283=>237|284=>238|285=>239|286=>240|129=>260|317=>259|318=>261|319=>262|320=>263|337=>277|338=>278|n=>n,fun|3=>3|9=>9|2=>2|4=>4|171=>289|0=>0|53=>290|37=>22|5=>5|173=>293|212=>315|51=>269|20=>20|213=>316|46=>98|232=>344|233=>345|n=>n,fun|17=>1|18=>4|19=>5|n=>n⟩
theorem Tryz.laysM171:Go.Proofs.LaysM.n171 Tryz.prog Tryz.laysM171_ren:=by
 repeat' first|kernel_rfl|(intro _;kernel_rfl)|decide|constructor
def Tryz.laysC172_ren:Go.Shelf.Ren:=⟨fun|172=>189|244=>216|245=>217|247=>241|279=>242|280=>243|281=>244|282=>245|287=>264|316=>265|171=>147|205=>266|321=>279|322=>280|243=>179|246=>213|283=>237|284=>238|285=>239|286=>240|129=>260|317=>259|318=>261|319=>262|320=>263|337=>277|338=>278|n=>n,fun|9=>9|3=>3|75=>139|76=>140|4=>4|5=>5|167=>295|37=>22|0=>0|85=>296|2=>2|168=>298|53=>290|175=>318|46=>98|210=>322|127=>182|145=>339|143=>337|21=>21|171=>289|173=>293|212=>315|51=>269|20=>20|213=>316|232=>344|233=>345|80=>142|n=>n,fun|15=>2|16=>3|17=>1|18=>4|19=>5|n=>n⟩
theorem Tryz.laysC172:Go.Proofs.LaysC.n172 Tryz.prog Tryz.laysC172_ren:=by
 repeat' first|kernel_rfl|(intro _;kernel_rfl)|decide|constructor
def Tryz.lays145_ren:Go.Shelf.Ren:=⟨fun|145=>80|220=>118|219=>156|217=>185|225=>186|224=>187|267=>188|266=>214|314=>215|n=>n,fun|9=>9|4=>4|59=>149|3=>3|5=>5|46=>98|146=>270|51=>269|n=>n,fun|1=>0|n=>n⟩
theorem Tryz.lays145:Go.Proofs.Lays.n145 Tryz.prog Tryz.lays145_ren:=by
 repeat' first|kernel_rfl|(intro _;kernel_rfl)|decide|constructor
end Go.Proofs
