import Derived.Test.YtdlofomblpdiaaaGreatKsZb
import Derived.Test.YtdlofomblpdiaaaGreatProg
import Derived.KernelRfl
namespace Go.Ks
noncomputable section
abbrev PP : Program := Go.Proofs.Tryz.prog
def E0 : Ext1 := fun _ _ => none
theorem E0_ok : EOK PP E0 := fun _ _ _ h => by cases h
theorem noCount_all : (Go.Proofs.Tryz.prog).funcs.all (fun fn => !(fn.name == "runtime.NumGoroutine")) = true := by kernel_rfl
theorem noCount : NoCount PP := fun f fn h => by
  have := Array.all_eq_true_iff_forall_mem.1 noCount_all fn (Array.mem_of_getElem? h)
  simpa using this
theorem mixed : (Go.Proofs.Tryz.prog).follows .mixedOrders = true := by kernel_rfl
end
end Go.Ks
