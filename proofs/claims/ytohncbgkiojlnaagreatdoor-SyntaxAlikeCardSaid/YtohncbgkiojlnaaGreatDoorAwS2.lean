/- A program is parsed and counted: the concrete part of every law of this seat. -/
import Derived.Test.YtohncbgkiojlnaaGreatDoorAmS2
set_option maxRecDepth 100000
namespace Go.Proofs.YtohncbgkiojlnaaGreatDoor
open Go.Proofs.YtohncbgkiojlnaaGreatDoor.Am
theorem awake_run : run 2000 9 [] ⟨.nil, 0, 0⟩ = some (.bool true, ⟨.nil, 0, 0⟩) := by kernel_rfl
end Go.Proofs.YtohncbgkiojlnaaGreatDoor
