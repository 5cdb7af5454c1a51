import Derived.Test.YtbdbjamebjbhnaaLCell
import Derived.Test.YtbdbjamebjbhnaaProg
import Derived.KernelRfl
set_option linter.all false
set_option maxRecDepth 100000
namespace Go.Lift.S38
open Go Go.Lift Go.Proofs
@[reducible] def t_runtime_boundsError : Ty := (.cons (.int .i64) (.cons (.int .i64) (.cons .bool (.cons (.int .u8) .nil))))
@[reducible] def t_runtime_errorAddressString : Ty := (.cons .str (.cons (.int .u64) .nil))
@[reducible] def t_maps_unhashableTypeError : Ty := (.cons (.nilp false) .nil)
@[reducible] def t_api_Point : Ty := (.cons (.int .i64) (.cons (.int .i64) .nil))
@[reducible] def t_api_Cell : Ty := (.cons (.int .i64) (.cons (.int .i64) .nil))
@[reducible] def t_api_Place : Ty := (.cons .str (.cons (.int .i64) (.cons (.int .i64) (.cons (.int .i64) (.cons (.slice 0 t_api_Point) (.cons (.slice 0 (.int .i64)) (.cons (.int .i64) (.cons (.int .i64) (.cons (.int .i64) (.cons (.int .i64) (.cons (.int .i64) (.cons (.slice 0 t_api_Cell) .nil))))))))))))
@[reducible] def t_api_Band : Ty := (.cons (.slice 0 t_api_Point) (.cons (.slice 0 t_api_Point) .nil))
@[reducible] def t_api_Link : Ty := (.cons .str (.cons (.int .i64) (.cons (.int .i64) (.cons (.int .i64) (.cons (.slice 0 t_api_Point) (.cons t_api_Band (.cons (.int .i64) (.cons (.int .i64) (.cons (.int .i64) (.cons (.int .i64) (.cons (.int .i64) (.cons (.int .i64) (.cons (.int .i64) (.cons (.int .i64) (.cons (.int .i64) (.cons (.int .i64) (.cons (.int .i64) .nil)))))))))))))))))
@[reducible] def t_api_Town : Ty := (.cons .str (.cons (.int .i64) (.cons (.int .i64) (.cons (.int .i64) (.cons (.int .i64) (.cons (.int .i64) (.cons (.int .i64) .nil)))))))
@[reducible] def t_api_Gauge : Ty := (.cons .str (.cons (.int .i64) (.cons (.int .i64) (.cons (.int .i64) (.cons (.int .i64) .nil)))))
@[reducible] def t_api_Road : Ty := (.cons .str (.cons (.int .i64) (.cons (.int .i64) (.cons (.int .i64) (.cons (.int .i64) (.cons (.int .i64) (.cons (.int .i64) .nil)))))))
@[reducible] def t_api_Shelter : Ty := (.cons .str (.cons (.int .i64) .nil))
@[reducible] def t_api_Basin : Ty := (.cons .str (.cons (.slice 0 .str) (.cons (.int .i64) (.cons (.slice 0 t_api_Place) (.cons (.slice 0 t_api_Link) (.cons (.slice 0 t_api_Town) (.cons (.slice 0 t_api_Gauge) (.cons (.slice 0 t_api_Road) (.cons (.slice 0 t_api_Shelter) (.cons (.slice 0 (.int .i64)) (.cons (.int .i64) .nil)))))))))))
@[reducible] def t_api_Right : Ty := (.cons (.int .i64) (.cons (.int .i64) (.cons (.int .i64) (.cons (.int .i64) (.cons (.int .i64) (.cons (.int .i64) (.cons (.int .i64) (.cons (.int .i64) (.cons (.int .i64) .nil)))))))))
@[reducible] def t_api_Grant : Ty := (.cons (.int .i64) (.cons (.int .i64) .nil))
@[reducible] def t_api_Excuse : Ty := (.cons (.int .i64) (.cons (.int .i64) .nil))
@[reducible] def t_call_day : Ty := (.cons t_api_Basin (.cons (.slice 0 t_api_Right) (.cons (.slice 0 (.slice 0 (.int .i64))) (.cons (.slice 0 (.int .i64)) (.cons (.slice 0 (.int .i64)) .nil)))))
@[reducible] def t_runtime_TypeAssertionError : Ty := (.cons (.nilp false) (.cons (.nilp false) (.cons (.nilp false) (.cons .str .nil))))
@[reducible] def t_runtime_PanicNilError : Ty := (.cons (.arr 0 (.nilp false)) .nil)
@[reducible] def t_abi_Type : Ty := (.cons (.int .u64) (.cons (.int .u64) (.cons (.int .u32) (.cons (.int .u8) (.cons (.int .u8) (.cons (.int .u8) (.cons (.int .u8) (.cons .any (.cons (.nilp false) (.cons (.int .i32) (.cons (.int .i32) .nil)))))))))))
def names : List (Ty × String) := [(t_api_Point, "t_api_Point"), (t_api_Cell, "t_api_Cell"), (t_api_Place, "t_api_Place"), (t_api_Band, "t_api_Band"), (t_api_Link, "t_api_Link"), (t_api_Town, "t_api_Town"), (t_api_Gauge, "t_api_Gauge"), (t_api_Road, "t_api_Road"), (t_api_Shelter, "t_api_Shelter"), (t_api_Basin, "t_api_Basin"), (t_api_Right, "t_api_Right"), (t_api_Grant, "t_api_Grant"), (t_api_Excuse, "t_api_Excuse"), (t_call_day, "t_call_day")]
def tyTab : List (Nat × Ty) := [
  (2, (.int .i64)),
  (3, (.int .i64)),
  (4, .bool),
  (5, (.int .u8)),
  (6, (.int .u8)),
  (7, t_runtime_boundsError),
  (8, t_runtime_boundsError),
  (9, .str),
  (10, .str),
  (11, .str),
  (12, (.int .u64)),
  (13, t_runtime_errorAddressString),
  (14, t_runtime_errorAddressString),
  (15, (.nilp false)),
  (16, (.nilp false)),
  (17, (.nilp false)),
  (18, t_maps_unhashableTypeError),
  (19, t_maps_unhashableTypeError),
  (21, (.int .i32)),
  (22, (.slice 0 .str)),
  (23, (.slice 0 t_api_Place)),
  (24, (.slice 0 t_api_Link)),
  (25, (.slice 0 t_api_Town)),
  (26, (.slice 0 t_api_Gauge)),
  (27, (.slice 0 t_api_Road)),
  (28, (.slice 0 t_api_Shelter)),
  (29, (.slice 0 (.int .i64))),
  (30, t_api_Basin),
  (31, t_api_Basin),
  (32, (.slice 0 t_api_Right)),
  (33, (.slice 0 t_api_Grant)),
  (34, (.slice 0 t_api_Excuse)),
  (38, t_api_Right),
  (39, t_api_Right),
  (52, t_api_Grant),
  (53, t_api_Grant),
  (59, t_api_Excuse),
  (60, t_api_Excuse),
  (61, (.slice 0 (.slice 0 (.int .i64)))),
  (62, t_call_day),
  (63, t_call_day),
  (76, (.slice 0 t_api_Point)),
  (77, (.slice 0 t_api_Cell)),
  (78, t_api_Place),
  (79, t_api_Place),
  (86, t_runtime_TypeAssertionError),
  (87, t_runtime_TypeAssertionError),
  (88, (.arr 0 (.nilp false))),
  (89, t_runtime_PanicNilError),
  (90, t_runtime_PanicNilError),
  (92, (.int .u32)),
  (93, (.int .u8)),
  (94, (.int .u8)),
  (96, (.nilp false)),
  (97, (.int .i32)),
  (98, (.int .i32)),
  (99, t_abi_Type),
  (100, t_abi_Type),
  (101, t_api_Band),
  (102, t_api_Band),
  (103, t_api_Link),
  (104, t_api_Link),
  (105, t_api_Town),
  (106, t_api_Town),
  (107, t_api_Gauge),
  (108, t_api_Gauge),
  (109, t_api_Road),
  (110, t_api_Road),
  (111, t_api_Shelter),
  (112, t_api_Shelter),
  (113, t_api_Point),
  (114, t_api_Point),
  (115, t_api_Cell),
  (116, t_api_Cell)
]
def elTab : List (Nat × Nat) := [(22, 9), (23, 79), (24, 104), (25, 106), (26, 108), (27, 110), (28, 112), (29, 3), (32, 39), (33, 53), (34, 60), (61, 29), (76, 114), (77, 116)]
def byTab : List (Nat × Nat) := [(22, 16), (23, 152), (24, 200), (25, 64), (26, 48), (27, 64), (28, 24), (29, 8), (32, 72), (33, 16), (34, 16), (61, 24), (76, 16), (77, 16)]
def C0 : Ctx := mkCtx tyTab byTab elTab [53, 60]
theorem eqf53 : EqFact Try.prog 53 := ⟨by kernel_rfl, by kernel_rfl, by kernel_rfl⟩
theorem eqt53 : lkT 53 tyTab = some (t_api_Grant) := by kernel_rfl
theorem eqf60 : EqFact Try.prog 60 := ⟨by kernel_rfl, by kernel_rfl, by kernel_rfl⟩
theorem eqt60 : lkT 60 tyTab = some (t_api_Excuse) := by kernel_rfl
theorem ctx0 : CtxOk0 Try.prog C0 := ctx0_of (by kernel_rfl) (fun T h => by
  have h := memN_iff.1 h
  simp only [List.mem_cons, List.not_mem_nil, or_false] at h
  rcases h with rfl | rfl
  · exact ⟨eqf53, fun t ht => by rw [eqt53] at ht; cases ht; rfl⟩
  · exact ⟨eqf60, fun t ht => by rw [eqt60] at ht; cases ht; rfl⟩
  )
theorem mixed : Try.prog.follows .mixedOrders = true := by kernel_rfl
end Go.Lift.S38
