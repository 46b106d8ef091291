/-
  Nothing is laid here: the seat lacks the function.
-/
import Derived.KernelRfl
namespace Go.Proofs.YtlpfnpcnidaijaaDoor
end Go.Proofs.YtlpfnpcnidaijaaDoor
