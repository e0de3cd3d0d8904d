/-
  They are what the compiler makes of the loaded program. Printed by a program of this project.
-/
import Derived.Test.YtihjheckdjocoaaAmT0
import Derived.Test.YtihjheckdjocoaaAmComp
import Derived.Test.YtihjheckdjocoaaProg
import Derived.KernelRfl
namespace Go.AM
open Go Go.Proofs

theorem c3 : cfn Try.prog Try.f3 = some a3 := by kernel_rfl
theorem k3 : callable Try.prog 3 = true := by kernel_rfl
theorem c4 : cfn Try.prog Try.f4 = some a4 := by kernel_rfl
theorem k4 : callable Try.prog 4 = true := by kernel_rfl
theorem c5 : cfn Try.prog Try.f5 = some a5 := by kernel_rfl
theorem k5 : callable Try.prog 5 = true := by kernel_rfl
theorem c6 : cfn Try.prog Try.f6 = some a6 := by kernel_rfl
theorem k6 : callable Try.prog 6 = true := by kernel_rfl
theorem c7 : cfn Try.prog Try.f7 = some a7 := by kernel_rfl
theorem k7 : callable Try.prog 7 = true := by kernel_rfl
theorem c8 : cfn Try.prog Try.f8 = some a8 := by kernel_rfl
theorem k8 : callable Try.prog 8 = true := by kernel_rfl
theorem c9 : cfn Try.prog Try.f9 = some a9 := by kernel_rfl
theorem k9 : callable Try.prog 9 = true := by kernel_rfl
theorem c10 : cfn Try.prog Try.f10 = some a10 := by kernel_rfl
theorem k10 : callable Try.prog 10 = true := by kernel_rfl
theorem c11 : cfn Try.prog Try.f11 = some a11 := by kernel_rfl
theorem k11 : callable Try.prog 11 = true := by kernel_rfl
theorem c12 : cfn Try.prog Try.f12 = some a12 := by kernel_rfl
theorem k12 : callable Try.prog 12 = true := by kernel_rfl
theorem c13 : cfn Try.prog Try.f13 = some a13 := by kernel_rfl
theorem k13 : callable Try.prog 13 = true := by kernel_rfl
theorem c14 : cfn Try.prog Try.f14 = some a14 := by kernel_rfl
theorem k14 : callable Try.prog 14 = true := by kernel_rfl
theorem c15 : cfn Try.prog Try.f15 = some a15 := by kernel_rfl
theorem k15 : callable Try.prog 15 = true := by kernel_rfl
theorem c16 : cfn Try.prog Try.f16 = some a16 := by kernel_rfl
theorem k16 : callable Try.prog 16 = true := by kernel_rfl
theorem c17 : cfn Try.prog Try.f17 = some a17 := by kernel_rfl
theorem k17 : callable Try.prog 17 = true := by kernel_rfl
theorem c18 : cfn Try.prog Try.f18 = some a18 := by kernel_rfl
theorem k18 : callable Try.prog 18 = true := by kernel_rfl
theorem c19 : cfn Try.prog Try.f19 = some a19 := by kernel_rfl
theorem k19 : callable Try.prog 19 = true := by kernel_rfl
theorem c20 : cfn Try.prog Try.f20 = some a20 := by kernel_rfl
theorem k20 : callable Try.prog 20 = true := by kernel_rfl
theorem c21 : cfn Try.prog Try.f21 = some a21 := by kernel_rfl
theorem k21 : callable Try.prog 21 = true := by kernel_rfl
theorem c22 : cfn Try.prog Try.f22 = some a22 := by kernel_rfl
theorem k22 : callable Try.prog 22 = true := by kernel_rfl
theorem c23 : cfn Try.prog Try.f23 = some a23 := by kernel_rfl
theorem k23 : callable Try.prog 23 = true := by kernel_rfl
theorem c24 : cfn Try.prog Try.f24 = some a24 := by kernel_rfl
theorem k24 : callable Try.prog 24 = true := by kernel_rfl
theorem c25 : cfn Try.prog Try.f25 = some a25 := by kernel_rfl
theorem k25 : callable Try.prog 25 = true := by kernel_rfl
theorem c26 : cfn Try.prog Try.f26 = some a26 := by kernel_rfl
theorem k26 : callable Try.prog 26 = true := by kernel_rfl
theorem c27 : cfn Try.prog Try.f27 = some a27 := by kernel_rfl
theorem k27 : callable Try.prog 27 = true := by kernel_rfl
theorem c28 : cfn Try.prog Try.f28 = some a28 := by kernel_rfl
theorem k28 : callable Try.prog 28 = true := by kernel_rfl
theorem c29 : cfn Try.prog Try.f29 = some a29 := by kernel_rfl
theorem k29 : callable Try.prog 29 = true := by kernel_rfl
theorem c30 : cfn Try.prog Try.f30 = some a30 := by kernel_rfl
theorem k30 : callable Try.prog 30 = true := by kernel_rfl
theorem c31 : cfn Try.prog Try.f31 = some a31 := by kernel_rfl
theorem k31 : callable Try.prog 31 = true := by kernel_rfl
theorem c32 : cfn Try.prog Try.f32 = some a32 := by kernel_rfl
theorem k32 : callable Try.prog 32 = true := by kernel_rfl
theorem c33 : cfn Try.prog Try.f33 = some a33 := by kernel_rfl
theorem k33 : callable Try.prog 33 = true := by kernel_rfl
theorem c34 : cfn Try.prog Try.f34 = some a34 := by kernel_rfl
theorem k34 : callable Try.prog 34 = true := by kernel_rfl
theorem c35 : cfn Try.prog Try.f35 = some a35 := by kernel_rfl
theorem k35 : callable Try.prog 35 = true := by kernel_rfl
theorem c36 : cfn Try.prog Try.f36 = some a36 := by kernel_rfl
theorem k36 : callable Try.prog 36 = true := by kernel_rfl
theorem c37 : cfn Try.prog Try.f37 = some a37 := by kernel_rfl
theorem k37 : callable Try.prog 37 = true := by kernel_rfl
theorem c38 : cfn Try.prog Try.f38 = some a38 := by kernel_rfl
theorem k38 : callable Try.prog 38 = true := by kernel_rfl
theorem c39 : cfn Try.prog Try.f39 = some a39 := by kernel_rfl
theorem k39 : callable Try.prog 39 = true := by kernel_rfl
theorem c40 : cfn Try.prog Try.f40 = some a40 := by kernel_rfl
theorem k40 : callable Try.prog 40 = true := by kernel_rfl
theorem c41 : cfn Try.prog Try.f41 = some a41 := by kernel_rfl
theorem k41 : callable Try.prog 41 = true := by kernel_rfl
theorem c42 : cfn Try.prog Try.f42 = some a42 := by kernel_rfl
theorem k42 : callable Try.prog 42 = true := by kernel_rfl
theorem c43 : cfn Try.prog Try.f43 = some a43 := by kernel_rfl
theorem k43 : callable Try.prog 43 = true := by kernel_rfl

end Go.AM
