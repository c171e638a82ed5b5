/- A part of the proof: the law's function is run by the kernel; it gives true. -/
import Derived.Test.YtpadlfhopcfakaaXBDownloadNumbers
import Derived.KernelRfl
namespace Go.Proofs.Ytpadlfhopcfakaa.downloadNumbersCode
open Go.Am Go.Proofs
theorem ran : isTrue (runF (tabOf table) 100000 7 []) = true := by kernel_rfl
theorem says : ACalls Try.prog 7 [] (fun _ => none) (fun b _ => b = .bool true) := says_true ran
end Go.Proofs.Ytpadlfhopcfakaa.downloadNumbersCode
