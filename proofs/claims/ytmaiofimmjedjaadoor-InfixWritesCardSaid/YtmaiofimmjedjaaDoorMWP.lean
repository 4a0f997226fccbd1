/- The cards of two statements. -/
import Derived.Test.YtmaiofimmjedjaaDoorMW33
import Derived.Test.YtmaiofimmjedjaaDoorMW36
namespace Go.Proofs.YtmaiofimmjedjaaDoor
end Go.Proofs.YtmaiofimmjedjaaDoor
