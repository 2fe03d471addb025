/- A window in words: alike. -/
import Derived.Test.YtddoligbabahbaaGreatPT
import Derived.Test.YtddoligbabahbaaGreatVkU
namespace Go.Vk
end Go.Vk
