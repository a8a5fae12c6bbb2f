/- The kernel compiles the same from the loaded program. -/
import Derived.Test.YtgiebkbbnjnplaaGreatDoorAbIR0
import Derived.Test.YtgiebkbbnjnplaaGreatDoorProg
import Derived.Test.YtgiebkbbnjnplaaGreatDoorAbComp
import Derived.KernelRfl
set_option maxRecDepth 100000
namespace Go.Proofs
open Go.Ab
theorem c3 : compFunc Tryz.prog Tryz.f3 = some a3 := by kernel_rfl
theorem c5 : compFunc Tryz.prog Tryz.f5 = some a5 := by kernel_rfl
theorem c6 : compFunc Tryz.prog Tryz.f6 = some a6 := by kernel_rfl
theorem c7 : compFunc Tryz.prog Tryz.f7 = some a7 := by kernel_rfl
theorem c8 : compFunc Tryz.prog Tryz.f8 = some a8 := by kernel_rfl
theorem c9 : compFunc Tryz.prog Tryz.f9 = some a9 := by kernel_rfl
theorem c10 : compFunc Tryz.prog Tryz.f10 = some a10 := by kernel_rfl
theorem c11 : compFunc Tryz.prog Tryz.f11 = some a11 := by kernel_rfl
theorem c12 : compFunc Tryz.prog Tryz.f12 = some a12 := by kernel_rfl
theorem c13 : compFunc Tryz.prog Tryz.f13 = some a13 := by kernel_rfl
theorem c14 : compFunc Tryz.prog Tryz.f14 = some a14 := by kernel_rfl
theorem c15 : compFunc Tryz.prog Tryz.f15 = some a15 := by kernel_rfl
theorem c16 : compFunc Tryz.prog Tryz.f16 = some a16 := by kernel_rfl
theorem c17 : compFunc Tryz.prog Tryz.f17 = some a17 := by kernel_rfl
theorem c18 : compFunc Tryz.prog Tryz.f18 = some a18 := by kernel_rfl
theorem c19 : compFunc Tryz.prog Tryz.f19 = some a19 := by kernel_rfl
theorem c20 : compFunc Tryz.prog Tryz.f20 = some a20 := by kernel_rfl
theorem c21 : compFunc Tryz.prog Tryz.f21 = some a21 := by kernel_rfl
theorem c22 : compFunc Tryz.prog Tryz.f22 = some a22 := by kernel_rfl
theorem c23 : compFunc Tryz.prog Tryz.f23 = some a23 := by kernel_rfl
theorem c24 : compFunc Tryz.prog Tryz.f24 = some a24 := by kernel_rfl
theorem c28 : compFunc Tryz.prog Tryz.f28 = some a28 := by kernel_rfl
theorem c35 : compFunc Tryz.prog Tryz.f35 = some a35 := by kernel_rfl
theorem c37 : compFunc Tryz.prog Tryz.f37 = some a37 := by kernel_rfl
theorem c43 : compFunc Tryz.prog Tryz.f43 = some a43 := by kernel_rfl
theorem c44 : compFunc Tryz.prog Tryz.f44 = some a44 := by kernel_rfl
theorem c45 : compFunc Tryz.prog Tryz.f45 = some a45 := by kernel_rfl
theorem c46 : compFunc Tryz.prog Tryz.f46 = some a46 := by kernel_rfl
theorem c47 : compFunc Tryz.prog Tryz.f47 = some a47 := by kernel_rfl
theorem c50 : compFunc Tryz.prog Tryz.f50 = some a50 := by kernel_rfl
theorem c51 : compFunc Tryz.prog Tryz.f51 = some a51 := by kernel_rfl
theorem c52 : compFunc Tryz.prog Tryz.f52 = some a52 := by kernel_rfl
theorem c53 : compFunc Tryz.prog Tryz.f53 = some a53 := by kernel_rfl
theorem c54 : compFunc Tryz.prog Tryz.f54 = some a54 := by kernel_rfl
theorem c56 : compFunc Tryz.prog Tryz.f56 = some a56 := by kernel_rfl
theorem c57 : compFunc Tryz.prog Tryz.f57 = some a57 := by kernel_rfl
theorem c58 : compFunc Tryz.prog Tryz.f58 = some a58 := by kernel_rfl
theorem c59 : compFunc Tryz.prog Tryz.f59 = some a59 := by kernel_rfl
theorem c60 : compFunc Tryz.prog Tryz.f60 = some a60 := by kernel_rfl
theorem c61 : compFunc Tryz.prog Tryz.f61 = some a61 := by kernel_rfl
theorem c64 : compFunc Tryz.prog Tryz.f64 = some a64 := by kernel_rfl
theorem c67 : compFunc Tryz.prog Tryz.f67 = some a67 := by kernel_rfl
theorem c68 : compFunc Tryz.prog Tryz.f68 = some a68 := by kernel_rfl
theorem c69 : compFunc Tryz.prog Tryz.f69 = some a69 := by kernel_rfl
theorem c70 : compFunc Tryz.prog Tryz.f70 = some a70 := by kernel_rfl
theorem c71 : compFunc Tryz.prog Tryz.f71 = some a71 := by kernel_rfl
theorem c72 : compFunc Tryz.prog Tryz.f72 = some a72 := by kernel_rfl
theorem c77 : compFunc Tryz.prog Tryz.f77 = some a77 := by kernel_rfl
theorem c78 : compFunc Tryz.prog Tryz.f78 = some a78 := by kernel_rfl
theorem c79 : compFunc Tryz.prog Tryz.f79 = some a79 := by kernel_rfl
theorem c81 : compFunc Tryz.prog Tryz.f81 = some a81 := by kernel_rfl
theorem c82 : compFunc Tryz.prog Tryz.f82 = some a82 := by kernel_rfl
theorem c83 : compFunc Tryz.prog Tryz.f83 = some a83 := by kernel_rfl
theorem c84 : compFunc Tryz.prog Tryz.f84 = some a84 := by kernel_rfl
theorem c85 : compFunc Tryz.prog Tryz.f85 = some a85 := by kernel_rfl
theorem c86 : compFunc Tryz.prog Tryz.f86 = some a86 := by kernel_rfl
theorem c87 : compFunc Tryz.prog Tryz.f87 = some a87 := by kernel_rfl
theorem c89 : compFunc Tryz.prog Tryz.f89 = some a89 := by kernel_rfl
theorem c90 : compFunc Tryz.prog Tryz.f90 = some a90 := by kernel_rfl
theorem c91 : compFunc Tryz.prog Tryz.f91 = some a91 := by kernel_rfl
theorem c92 : compFunc Tryz.prog Tryz.f92 = some a92 := by kernel_rfl
theorem c93 : compFunc Tryz.prog Tryz.f93 = some a93 := by kernel_rfl
theorem c94 : compFunc Tryz.prog Tryz.f94 = some a94 := by kernel_rfl
theorem c96 : compFunc Tryz.prog Tryz.f96 = some a96 := by kernel_rfl
theorem c97 : compFunc Tryz.prog Tryz.f97 = some a97 := by kernel_rfl
theorem c98 : compFunc Tryz.prog Tryz.f98 = some a98 := by kernel_rfl
theorem c100 : compFunc Tryz.prog Tryz.f100 = some a100 := by kernel_rfl
theorem c101 : compFunc Tryz.prog Tryz.f101 = some a101 := by kernel_rfl
theorem c102 : compFunc Tryz.prog Tryz.f102 = some a102 := by kernel_rfl
theorem c103 : compFunc Tryz.prog Tryz.f103 = some a103 := by kernel_rfl
theorem c104 : compFunc Tryz.prog Tryz.f104 = some a104 := by kernel_rfl
theorem c106 : compFunc Tryz.prog Tryz.f106 = some a106 := by kernel_rfl
theorem c107 : compFunc Tryz.prog Tryz.f107 = some a107 := by kernel_rfl
end Go.Proofs
