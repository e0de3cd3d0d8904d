/-
  They are what the compiler makes of the loaded program. Printed by a program of this project.
-/
import Derived.Test.YtihjheckdjocoaaAmT1
import Derived.Test.YtihjheckdjocoaaAmComp
import Derived.Test.YtihjheckdjocoaaProg
import Derived.KernelRfl
namespace Go.AM
open Go Go.Proofs

theorem c44 : cfn Try.prog Try.f44 = some a44 := by kernel_rfl
theorem k44 : callable Try.prog 44 = true := by kernel_rfl
theorem c45 : cfn Try.prog Try.f45 = some a45 := by kernel_rfl
theorem k45 : callable Try.prog 45 = true := by kernel_rfl
theorem c46 : cfn Try.prog Try.f46 = some a46 := by kernel_rfl
theorem k46 : callable Try.prog 46 = true := by kernel_rfl
theorem c47 : cfn Try.prog Try.f47 = some a47 := by kernel_rfl
theorem k47 : callable Try.prog 47 = true := by kernel_rfl
theorem c48 : cfn Try.prog Try.f48 = some a48 := by kernel_rfl
theorem k48 : callable Try.prog 48 = true := by kernel_rfl
theorem c49 : cfn Try.prog Try.f49 = some a49 := by kernel_rfl
theorem k49 : callable Try.prog 49 = true := by kernel_rfl
theorem c50 : cfn Try.prog Try.f50 = some a50 := by kernel_rfl
theorem k50 : callable Try.prog 50 = true := by kernel_rfl
theorem c51 : cfn Try.prog Try.f51 = some a51 := by kernel_rfl
theorem k51 : callable Try.prog 51 = true := by kernel_rfl
theorem c52 : cfn Try.prog Try.f52 = some a52 := by kernel_rfl
theorem k52 : callable Try.prog 52 = true := by kernel_rfl
theorem c53 : cfn Try.prog Try.f53 = some a53 := by kernel_rfl
theorem k53 : callable Try.prog 53 = true := by kernel_rfl
theorem c54 : cfn Try.prog Try.f54 = some a54 := by kernel_rfl
theorem k54 : callable Try.prog 54 = true := by kernel_rfl
theorem c55 : cfn Try.prog Try.f55 = some a55 := by kernel_rfl
theorem k55 : callable Try.prog 55 = true := by kernel_rfl
theorem c56 : cfn Try.prog Try.f56 = some a56 := by kernel_rfl
theorem k56 : callable Try.prog 56 = true := by kernel_rfl
theorem c57 : cfn Try.prog Try.f57 = some a57 := by kernel_rfl
theorem k57 : callable Try.prog 57 = true := by kernel_rfl
theorem c58 : cfn Try.prog Try.f58 = some a58 := by kernel_rfl
theorem k58 : callable Try.prog 58 = true := by kernel_rfl
theorem c59 : cfn Try.prog Try.f59 = some a59 := by kernel_rfl
theorem k59 : callable Try.prog 59 = true := by kernel_rfl
theorem c60 : cfn Try.prog Try.f60 = some a60 := by kernel_rfl
theorem k60 : callable Try.prog 60 = true := by kernel_rfl
theorem c61 : cfn Try.prog Try.f61 = some a61 := by kernel_rfl
theorem k61 : callable Try.prog 61 = true := by kernel_rfl
theorem c62 : cfn Try.prog Try.f62 = some a62 := by kernel_rfl
theorem k62 : callable Try.prog 62 = true := by kernel_rfl
theorem c63 : cfn Try.prog Try.f63 = some a63 := by kernel_rfl
theorem k63 : callable Try.prog 63 = true := by kernel_rfl
theorem c64 : cfn Try.prog Try.f64 = some a64 := by kernel_rfl
theorem k64 : callable Try.prog 64 = true := by kernel_rfl
theorem c65 : cfn Try.prog Try.f65 = some a65 := by kernel_rfl
theorem k65 : callable Try.prog 65 = true := by kernel_rfl
theorem c66 : cfn Try.prog Try.f66 = some a66 := by kernel_rfl
theorem k66 : callable Try.prog 66 = true := by kernel_rfl
theorem c67 : cfn Try.prog Try.f67 = some a67 := by kernel_rfl
theorem k67 : callable Try.prog 67 = true := by kernel_rfl
theorem c68 : cfn Try.prog Try.f68 = some a68 := by kernel_rfl
theorem k68 : callable Try.prog 68 = true := by kernel_rfl
theorem c69 : cfn Try.prog Try.f69 = some a69 := by kernel_rfl
theorem k69 : callable Try.prog 69 = true := by kernel_rfl
theorem c70 : cfn Try.prog Try.f70 = some a70 := by kernel_rfl
theorem k70 : callable Try.prog 70 = true := by kernel_rfl
theorem c71 : cfn Try.prog Try.f71 = some a71 := by kernel_rfl
theorem k71 : callable Try.prog 71 = true := by kernel_rfl
theorem c72 : cfn Try.prog Try.f72 = some a72 := by kernel_rfl
theorem k72 : callable Try.prog 72 = true := by kernel_rfl
theorem c73 : cfn Try.prog Try.f73 = some a73 := by kernel_rfl
theorem k73 : callable Try.prog 73 = true := by kernel_rfl
theorem c74 : cfn Try.prog Try.f74 = some a74 := by kernel_rfl
theorem k74 : callable Try.prog 74 = true := by kernel_rfl
theorem c75 : cfn Try.prog Try.f75 = some a75 := by kernel_rfl
theorem k75 : callable Try.prog 75 = true := by kernel_rfl

end Go.AM
