/-
 DERIVED: THE SHELF's CONTRACTS AT THIS DUMP, IN PLAIN WORDS (tools/lay-plain.mjs out of 'TryzSh0.lean', which tools/lay-shelf.mjs wrote): THE SAME DECLARATIONS UNDER THE SAME NAMES: 'import', 'namespace', 'open', 'def', 'theorem' AND NOTHING ELSE: no command of the shelf's: FOR A HAND-IN. Each laying: the table of numbers ('.._ren') and one theorem, a field a fact of the dump's own or the kernel's comparison; each contract: ONE APPLICATION.
-/
import Derived.Shelf.Strings.Builder1
import Derived.Shelf.Strings.Builder2
import Derived.Shelf.Strings.OnBuilder
import Derived.Shelf.Strings.BuilderF
import Derived.Shelf.Strconv.Atoi
import Derived.Shelf.Strconv.Itoa0
import Derived.Shelf.Strconv.Itoa1
import Derived.Shelf.LaysM
import Derived.Shelf.Strconv.Itoa2
import Derived.Shelf.Strconv.Itoa3
import Derived.Shelf.Strconv.AtoiErrFast
import Derived.Shelf.Strconv.ParseIntEmpty
import Derived.Shelf.Strconv.AtoiFail
import Derived.Shelf.Strconv.Clone
import Derived.Shelf.Strconv.SyntaxError
import Derived.Shelf.LaysC
import Derived.Shelf.Strconv.ToError
import Derived.Shelf.Strconv.Lower
import Derived.Shelf.Strconv.ParseUint10
import Derived.Shelf.Strconv.ParseUint10Empty
import Derived.Shelf.Strconv.ParseUint10Any
import Derived.Shelf.Strconv.ParseInt10
import Derived.Shelf.Strconv.AtoiLong
import Derived.Shelf.Strconv.AtoiInnerAll
import Derived.Shelf.Strconv.RangeError
import Derived.Shelf.Strconv.ToErrorRange
import Derived.Shelf.Strconv.AtoiAll
import Derived.Shelf.Strings.Search1
import Derived.Shelf.Strings.Search2
import Derived.Shelf.Strings.Cut
import Derived.Shelf.Strings.Shaped
import Derived.Test.YtnjemlncpeekkaaGreatDoorProg
namespace Go.Proofs
open Go.Shelf
def Tryz.lays156_ren:Go.Shelf.Ren:=⟨fun|156=>75|165=>119|166=>120|169=>121|240=>152|241=>153|276=>182|277=>183|n=>n,fun|31=>26|9=>9|3=>3|4=>4|0=>0|20=>20|72=>179|76=>183|70=>177|37=>22|75=>182|127=>214|164=>234|5=>5|80=>185|n=>n,fun|n=>n⟩
theorem Tryz.lays156:Go.Proofs.Lays.n156 Tryz.prog Tryz.lays156_ren:=by
 repeat' first|kernel_rfl|(intro _;kernel_rfl)|decide|constructor
theorem Tryz.Builder_Extra_156:Builder.Extra Tryz.prog Tryz.lays156_ren:=by
 repeat' first|kernel_rfl|(intro _;kernel_rfl)|decide|constructor
def Tryz.laysM171_ren:Go.Shelf.Ren:=⟨fun|171=>181|243=>215|246=>245|283=>264|284=>265|285=>266|286=>267|129=>282|317=>281|318=>283|319=>284|320=>285|337=>296|338=>297|n=>n,fun|3=>3|9=>9|2=>2|4=>4|171=>308|0=>0|53=>309|37=>22|5=>5|173=>312|212=>331|51=>282|20=>20|213=>332|46=>92|232=>345|233=>346|n=>n,fun|17=>3|18=>4|19=>5|n=>n⟩
theorem Tryz.laysM171:Go.Proofs.LaysM.n171 Tryz.prog Tryz.laysM171_ren:=by
 repeat' first|kernel_rfl|(intro _;kernel_rfl)|decide|constructor
def Tryz.laysC172_ren:Go.Shelf.Ren:=⟨fun|172=>204|244=>237|245=>238|247=>258|279=>259|280=>260|281=>261|282=>262|287=>278|316=>279|171=>181|205=>280|321=>294|322=>295|243=>215|246=>245|283=>264|284=>265|285=>266|286=>267|129=>282|317=>281|318=>283|319=>284|320=>285|337=>296|338=>297|n=>n,fun|9=>9|3=>3|75=>182|76=>183|4=>4|5=>5|167=>302|37=>22|0=>0|85=>303|2=>2|168=>305|53=>309|175=>325|46=>92|210=>329|127=>214|145=>342|143=>340|21=>21|171=>308|173=>312|212=>331|51=>282|20=>20|213=>332|232=>345|233=>346|80=>185|n=>n,fun|15=>1|16=>2|17=>3|18=>4|19=>5|n=>n⟩
theorem Tryz.laysC172:Go.Proofs.LaysC.n172 Tryz.prog Tryz.laysC172_ren:=by
 repeat' first|kernel_rfl|(intro _;kernel_rfl)|decide|constructor
def Tryz.lays145_ren:Go.Shelf.Ren:=⟨fun|145=>94|220=>135|219=>164|217=>200|225=>201|224=>202|267=>203|266=>235|314=>236|n=>n,fun|9=>9|4=>4|59=>155|3=>3|5=>5|46=>92|146=>283|51=>282|n=>n,fun|1=>0|n=>n⟩
theorem Tryz.lays145:Go.Proofs.Lays.n145 Tryz.prog Tryz.lays145_ren:=by
 repeat' first|kernel_rfl|(intro _;kernel_rfl)|decide|constructor
end Go.Proofs
