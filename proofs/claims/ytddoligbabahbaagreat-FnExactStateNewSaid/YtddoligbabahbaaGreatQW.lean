/- Masks. -/
import Derived.Test.YtddoligbabahbaaGreatQD
namespace Go.Vk
end Go.Vk
