import Derived.Test.YthomehfmoddgjaaLCtx
import Derived.Test.YthomehfmoddgjaaProg
import Derived.KernelRfl
set_option linter.all false
set_option maxRecDepth 100000
namespace Go.Lift.S18
open Go Go.Lift Go.Proofs
@[reducible] def t_runtime_boundsError : Ty := (.cons (.int .i64) (.cons (.int .i64) (.cons .bool (.cons (.int .u8) .nil))))
@[reducible] def t_runtime_errorAddressString : Ty := (.cons .str (.cons (.int .u64) .nil))
@[reducible] def t_maps_unhashableTypeError : Ty := (.cons (.nilp false) .nil)
@[reducible] def t_api_Point : Ty := (.cons (.int .i64) (.cons (.int .i64) .nil))
@[reducible] def t_api_Cell : Ty := (.cons (.int .i64) (.cons (.int .i64) .nil))
@[reducible] def t_api_Place : Ty := (.cons .str (.cons (.int .i64) (.cons (.int .i64) (.cons (.int .i64) (.cons (.slice 0 t_api_Point) (.cons (.slice 0 (.int .i64)) (.cons (.int .i64) (.cons (.int .i64) (.cons (.int .i64) (.cons (.int .i64) (.cons (.int .i64) (.cons (.slice 0 t_api_Cell) .nil))))))))))))
@[reducible] def t_api_Band : Ty := (.cons (.slice 0 t_api_Point) (.cons (.slice 0 t_api_Point) .nil))
@[reducible] def t_api_Link : Ty := (.cons .str (.cons (.int .i64) (.cons (.int .i64) (.cons (.int .i64) (.cons (.slice 0 t_api_Point) (.cons t_api_Band (.cons (.int .i64) (.cons (.int .i64) (.cons (.int .i64) (.cons (.int .i64) (.cons (.int .i64) (.cons (.int .i64) (.cons (.int .i64) (.cons (.int .i64) (.cons (.int .i64) (.cons (.int .i64) (.cons (.int .i64) .nil)))))))))))))))))
@[reducible] def t_api_Town : Ty := (.cons .str (.cons (.int .i64) (.cons (.int .i64) (.cons (.int .i64) (.cons (.int .i64) (.cons (.int .i64) (.cons (.int .i64) .nil)))))))
@[reducible] def t_api_Gauge : Ty := (.cons .str (.cons (.int .i64) (.cons (.int .i64) (.cons (.int .i64) (.cons (.int .i64) .nil)))))
@[reducible] def t_api_Road : Ty := (.cons .str (.cons (.int .i64) (.cons (.int .i64) (.cons (.int .i64) (.cons (.int .i64) (.cons (.int .i64) (.cons (.int .i64) .nil)))))))
@[reducible] def t_api_Shelter : Ty := (.cons .str (.cons (.int .i64) .nil))
@[reducible] def t_api_Basin : Ty := (.cons .str (.cons (.slice 0 .str) (.cons (.int .i64) (.cons (.slice 0 t_api_Place) (.cons (.slice 0 t_api_Link) (.cons (.slice 0 t_api_Town) (.cons (.slice 0 t_api_Gauge) (.cons (.slice 0 t_api_Road) (.cons (.slice 0 t_api_Shelter) (.cons (.slice 0 (.int .i64)) (.cons (.int .i64) .nil)))))))))))
@[reducible] def t_api_Load : Ty := (.cons (.int .i64) (.cons (.int .i64) (.cons (.slice 0 (.int .i64)) .nil)))
@[reducible] def t_runtime_TypeAssertionError : Ty := (.cons (.nilp false) (.cons (.nilp false) (.cons (.nilp false) (.cons .str .nil))))
@[reducible] def t_runtime_PanicNilError : Ty := (.cons (.arr 0 (.nilp false)) .nil)
@[reducible] def t_abi_Type : Ty := (.cons (.int .u64) (.cons (.int .u64) (.cons (.int .u32) (.cons (.int .u8) (.cons (.int .u8) (.cons (.int .u8) (.cons (.int .u8) (.cons .any (.cons (.nilp false) (.cons (.int .i32) (.cons (.int .i32) .nil)))))))))))
def names : List (Ty × String) := [(t_api_Point, "t_api_Point"), (t_api_Cell, "t_api_Cell"), (t_api_Place, "t_api_Place"), (t_api_Band, "t_api_Band"), (t_api_Link, "t_api_Link"), (t_api_Town, "t_api_Town"), (t_api_Gauge, "t_api_Gauge"), (t_api_Road, "t_api_Road"), (t_api_Shelter, "t_api_Shelter"), (t_api_Basin, "t_api_Basin"), (t_api_Load, "t_api_Load")]
def tyTab : List (Nat × Ty) := [
  (2, (.int .i64)),
  (3, (.int .i64)),
  (4, .bool),
  (5, (.int .u8)),
  (6, (.int .u8)),
  (7, t_runtime_boundsError),
  (8, t_runtime_boundsError),
  (9, .str),
  (10, .str),
  (11, .str),
  (12, (.int .u64)),
  (13, t_runtime_errorAddressString),
  (14, t_runtime_errorAddressString),
  (15, (.nilp false)),
  (16, (.nilp false)),
  (17, (.nilp false)),
  (18, t_maps_unhashableTypeError),
  (19, t_maps_unhashableTypeError),
  (21, (.int .i32)),
  (22, (.slice 0 .str)),
  (23, (.slice 0 t_api_Place)),
  (24, (.slice 0 t_api_Link)),
  (25, (.slice 0 t_api_Town)),
  (26, (.slice 0 t_api_Gauge)),
  (27, (.slice 0 t_api_Road)),
  (28, (.slice 0 t_api_Shelter)),
  (29, (.slice 0 (.int .i64))),
  (30, t_api_Basin),
  (31, t_api_Basin),
  (32, (.slice 0 t_api_Load)),
  (37, (.slice 0 t_api_Point)),
  (38, (.slice 0 t_api_Cell)),
  (39, t_api_Place),
  (40, t_api_Place),
  (44, (.slice 0 (.slice 0 (.int .i64)))),
  (52, t_api_Load),
  (53, t_api_Load),
  (70, (.int .u64)),
  (79, (.int .u64)),
  (84, t_runtime_TypeAssertionError),
  (85, t_runtime_TypeAssertionError),
  (86, (.arr 0 (.nilp false))),
  (87, t_runtime_PanicNilError),
  (88, t_runtime_PanicNilError),
  (90, (.int .u32)),
  (91, (.int .u8)),
  (92, (.int .u8)),
  (94, (.nilp false)),
  (95, (.int .i32)),
  (96, (.int .i32)),
  (97, t_abi_Type),
  (98, t_abi_Type),
  (99, t_api_Band),
  (100, t_api_Band),
  (101, t_api_Link),
  (102, t_api_Link),
  (103, t_api_Town),
  (104, t_api_Town),
  (105, t_api_Gauge),
  (106, t_api_Gauge),
  (107, t_api_Road),
  (108, t_api_Road),
  (109, t_api_Shelter),
  (110, t_api_Shelter),
  (111, t_api_Point),
  (112, t_api_Point),
  (113, t_api_Cell),
  (114, t_api_Cell)
]
def elTab : List (Nat × Nat) := [(22, 9), (23, 40), (24, 102), (25, 104), (26, 106), (27, 108), (28, 110), (29, 3), (32, 53), (37, 112), (38, 114), (44, 29)]
def byTab : List (Nat × Nat) := [(22, 16), (23, 152), (24, 200), (25, 64), (26, 48), (27, 64), (28, 24), (29, 8), (32, 40), (37, 16), (38, 16), (44, 24)]
def C0 : Ctx := mkCtx tyTab byTab elTab []
theorem ctx0 : CtxOk0 Try.prog C0 := ctx0_of (by kernel_rfl) (fun _ h => by cases h)
theorem mixed : Try.prog.follows .mixedOrders = true := by kernel_rfl
end Go.Lift.S18
