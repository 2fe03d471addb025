/-
 DERIVED: THE SHELF's CONTRACTS AT THIS DUMP, IN PLAIN WORDS (tools/lay-plain.mjs out of 'TryzSh0.lean', which tools/lay-shelf.mjs wrote): THE SAME DECLARATIONS UNDER THE SAME NAMES: 'import', 'namespace', 'open', 'def', 'theorem' AND NOTHING ELSE: no command of the shelf's: FOR A HAND-IN. Each laying: the table of numbers ('.._ren') and one theorem, a field a fact of the dump's own or the kernel's comparison; each contract: ONE APPLICATION.
-/
import Derived.Shelf.Strings.Builder1
import Derived.Shelf.Strings.Builder2
import Derived.Shelf.Strings.OnBuilder
import Derived.Shelf.Strings.BuilderF
import Derived.Shelf.Strconv.Atoi
import Derived.Shelf.Strconv.Itoa0
import Derived.Shelf.Strconv.Itoa1
import Derived.Shelf.LaysM
import Derived.Shelf.Strconv.Itoa2
import Derived.Shelf.Strconv.Itoa3
import Derived.Shelf.Strconv.AtoiErrFast
import Derived.Shelf.Strconv.ParseIntEmpty
import Derived.Shelf.Strconv.AtoiFail
import Derived.Shelf.Strconv.Clone
import Derived.Shelf.Strconv.SyntaxError
import Derived.Shelf.LaysC
import Derived.Shelf.Strconv.ToError
import Derived.Shelf.Strconv.Lower
import Derived.Shelf.Strconv.ParseUint10
import Derived.Shelf.Strconv.ParseUint10Empty
import Derived.Shelf.Strconv.ParseUint10Any
import Derived.Shelf.Strconv.ParseInt10
import Derived.Shelf.Strconv.AtoiLong
import Derived.Shelf.Strconv.AtoiInnerAll
import Derived.Shelf.Strconv.RangeError
import Derived.Shelf.Strconv.ToErrorRange
import Derived.Shelf.Strconv.AtoiAll
import Derived.Shelf.Strings.Search1
import Derived.Shelf.Strings.Search2
import Derived.Shelf.Strings.Cut
import Derived.Shelf.Strings.Shaped
import Derived.Test.YtnjemlncpeekkabGreatDoorProg
namespace Go.Proofs
open Go.Shelf
def Tryz.lays156_ren:Go.Shelf.Ren:=⟨fun|156=>42|165=>85|166=>86|169=>87|240=>134|241=>135|276=>175|277=>176|n=>n,fun|31=>25|9=>9|3=>3|4=>4|0=>0|20=>20|72=>144|76=>148|70=>142|37=>22|75=>147|127=>195|164=>226|5=>5|80=>150|n=>n,fun|n=>n⟩
theorem Tryz.lays156:Go.Proofs.Lays.n156 Tryz.prog Tryz.lays156_ren:=by
 repeat' first|kernel_rfl|(intro _;kernel_rfl)|decide|constructor
theorem Tryz.Builder_Extra_156:Builder.Extra Tryz.prog Tryz.lays156_ren:=by
 repeat' first|kernel_rfl|(intro _;kernel_rfl)|decide|constructor
def Tryz.laysM171_ren:Go.Shelf.Ren:=⟨fun|171=>174|243=>206|246=>239|283=>261|284=>262|285=>263|286=>264|129=>284|317=>283|318=>285|319=>286|320=>287|337=>301|338=>302|n=>n,fun|3=>3|9=>9|2=>2|4=>4|171=>300|0=>0|53=>301|37=>22|5=>5|173=>304|212=>326|51=>281|20=>20|213=>327|46=>100|232=>355|233=>356|n=>n,fun|17=>1|18=>4|19=>5|n=>n⟩
theorem Tryz.laysM171:Go.Proofs.LaysM.n171 Tryz.prog Tryz.laysM171_ren:=by
 repeat' first|kernel_rfl|(intro _;kernel_rfl)|decide|constructor
def Tryz.laysC172_ren:Go.Shelf.Ren:=⟨fun|172=>211|244=>242|245=>243|247=>265|279=>266|280=>267|281=>268|282=>269|287=>288|316=>289|171=>174|205=>290|321=>303|322=>304|243=>206|246=>239|283=>261|284=>262|285=>263|286=>264|129=>284|317=>283|318=>285|319=>286|320=>287|337=>301|338=>302|n=>n,fun|9=>9|3=>3|75=>147|76=>148|4=>4|5=>5|167=>306|37=>22|0=>0|85=>307|2=>2|168=>309|53=>301|175=>329|46=>100|210=>333|127=>195|145=>350|143=>348|21=>21|171=>300|173=>304|212=>326|51=>281|20=>20|213=>327|232=>355|233=>356|80=>150|n=>n,fun|15=>2|16=>3|17=>1|18=>4|19=>5|n=>n⟩
theorem Tryz.laysC172:Go.Proofs.LaysC.n172 Tryz.prog Tryz.laysC172_ren:=by
 repeat' first|kernel_rfl|(intro _;kernel_rfl)|decide|constructor
def Tryz.lays145_ren:Go.Shelf.Ren:=⟨fun|145=>89|220=>136|219=>177|217=>207|225=>208|224=>209|267=>210|266=>240|314=>241|n=>n,fun|9=>9|4=>4|59=>153|3=>3|5=>5|46=>100|146=>282|51=>281|n=>n,fun|1=>0|n=>n⟩
theorem Tryz.lays145:Go.Proofs.Lays.n145 Tryz.prog Tryz.lays145_ren:=by
 repeat' first|kernel_rfl|(intro _;kernel_rfl)|decide|constructor
end Go.Proofs
