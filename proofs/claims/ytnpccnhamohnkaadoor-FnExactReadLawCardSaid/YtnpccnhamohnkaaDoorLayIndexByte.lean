/-
  Nothing is laid here: the seat lacks the function.
-/
import Derived.KernelRfl
namespace Go.Proofs.YtnpccnhamohnkaaDoor
end Go.Proofs.YtnpccnhamohnkaaDoor
