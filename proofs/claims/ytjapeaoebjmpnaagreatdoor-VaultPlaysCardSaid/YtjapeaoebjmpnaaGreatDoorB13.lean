/- The walk of Take. Printed by gen_vs4.py. -/
import Derived.Test.YtjapeaoebjmpnaaGreatDoorB12
namespace Go.Proofs.YtjapeaoebjmpnaaGreatDoor
open Go.RowKit Go.Maps
set_option linter.unusedVariables false
set_option linter.unusedSimpArgs false
attribute [local go_sem] bmax2 bmin2 bmax_two bmin_two

end Go.Proofs.YtjapeaoebjmpnaaGreatDoor
