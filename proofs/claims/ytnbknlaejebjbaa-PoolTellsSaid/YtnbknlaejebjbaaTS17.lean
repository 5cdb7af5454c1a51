import Derived.Test.YtnbknlaejebjbaaLCell
import Derived.Test.YtnbknlaejebjbaaProg
import Derived.KernelRfl
set_option linter.all false
set_option maxRecDepth 100000
namespace Go.Lift.S17
open Go Go.Lift Go.Proofs
@[reducible] def t_runtime_boundsError : Ty := (.cons (.int .i64) (.cons (.int .i64) (.cons .bool (.cons (.int .u8) .nil))))
@[reducible] def t_runtime_errorAddressString : Ty := (.cons .str (.cons (.int .u64) .nil))
@[reducible] def t_maps_unhashableTypeError : Ty := (.cons (.nilp false) .nil)
@[reducible] def t_runtime_TypeAssertionError : Ty := (.cons (.nilp false) (.cons (.nilp false) (.cons (.nilp false) (.cons .str .nil))))
@[reducible] def t_runtime_PanicNilError : Ty := (.cons (.arr 0 (.nilp false)) .nil)
@[reducible] def t_abi_Type : Ty := (.cons (.int .u64) (.cons (.int .u64) (.cons (.int .u32) (.cons (.int .u8) (.cons (.int .u8) (.cons (.int .u8) (.cons (.int .u8) (.cons .any (.cons (.nilp false) (.cons (.int .i32) (.cons (.int .i32) .nil)))))))))))
def names : List (Ty × String) := []
def tyTab : List (Nat × Ty) := [
  (2, (.int .i64)),
  (3, (.int .i64)),
  (4, .bool),
  (5, (.int .u8)),
  (6, (.int .u8)),
  (7, t_runtime_boundsError),
  (8, t_runtime_boundsError),
  (9, .str),
  (10, .str),
  (11, .str),
  (12, (.int .u64)),
  (13, t_runtime_errorAddressString),
  (14, t_runtime_errorAddressString),
  (15, (.nilp false)),
  (16, (.nilp false)),
  (17, (.nilp false)),
  (18, t_maps_unhashableTypeError),
  (19, t_maps_unhashableTypeError),
  (21, (.int .i32)),
  (22, (.slice 0 (.int .i64))),
  (50, (.int .u64)),
  (54, (.slice 0 .bool)),
  (56, (.int .u64)),
  (65, t_runtime_TypeAssertionError),
  (66, t_runtime_TypeAssertionError),
  (67, (.arr 0 (.nilp false))),
  (68, t_runtime_PanicNilError),
  (69, t_runtime_PanicNilError),
  (71, (.int .u32)),
  (72, (.int .u8)),
  (73, (.int .u8)),
  (75, (.nilp false)),
  (76, (.int .i32)),
  (77, (.int .i32)),
  (78, t_abi_Type),
  (79, t_abi_Type)
]
def elTab : List (Nat × Nat) := [(22, 3), (54, 4)]
def byTab : List (Nat × Nat) := [(22, 8), (54, 1)]
def C0 : Ctx := mkCtx tyTab byTab elTab []
theorem ctx0 : CtxOk0 Try.prog C0 := ctx0_of (by kernel_rfl) (fun _ h => by cases h)
theorem mixed : Try.prog.follows .mixedOrders = true := by kernel_rfl
end Go.Lift.S17
