import Derived.Test.YthpclmlfmhjadaaKC1
namespace Go.Abs
set_option maxRecDepth 100000
theorem aw20 : (evE O1 T 4000 60 f_bastionlaw20_awake [] []).map (·.1) = some (.bool true) := by kernel_rfl
end Go.Abs
