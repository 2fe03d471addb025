/- Forks: tested alike. -/
import Derived.Test.YtddoligbabahbaaGreatPSt
namespace Go.Vk
end Go.Vk
