/- A part. -/
import Derived.Test.YtbdgioomddkglaaGreatVmC
noncomputable section
namespace Go.Abs
end Go.Abs
