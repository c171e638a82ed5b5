/- A part of the proof: the law's function is run by the kernel; it gives true. -/
import Derived.Test.YtmahfnljcfaicaaXBInternNumbers
import Derived.KernelRfl
namespace Go.Proofs.Ytmahfnljcfaicaa.internNumbersCode
open Go.Am Go.Proofs
theorem ran : isTrue (runF (tabOf table) 100000 3 []) = true := by kernel_rfl
theorem says : ACalls Try.prog 3 [] (fun _ => none) (fun b _ => b = .bool true) := says_true ran
end Go.Proofs.Ytmahfnljcfaicaa.internNumbersCode
