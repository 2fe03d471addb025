/- Scores: tested alike. -/
import Derived.Test.YtddoligbabahbaaGreatPT
namespace Go.Vk
end Go.Vk
