/- Scores: tested alike by the program. -/
import Derived.Test.YtddoligbabahbaaGreatPA
namespace Go.Vk
end Go.Vk
