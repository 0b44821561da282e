/-
  What the types of this translation are; which functions can be called. Printed by a program (types.py).
-/
import Derived.Test.YtpcancnnbjadeaaDoorGpD
import Derived.Test.YtpcancnnbjadeaaDoorGpK
import Derived.Test.YtpcancnnbjadeaaDoorProg
import Derived.KernelRfl
set_option linter.unusedSimpArgs false
set_option linter.unusedVariables false
namespace Go.Proofs.YtpcancnnbjadeaaDoor
open Go Go.Gp
theorem ti1 : tiOf Tryd.prog 1 = some ⟨1, 8, .func, [.nilFunc]⟩ := by kernel_rfl   -- func()
theorem ti2 : tiOf Tryd.prog 2 = some ⟨1, 8, .int .i64, [.int .i64 0]⟩ := by kernel_rfl   -- int64
theorem ti3 : tiOf Tryd.prog 3 = some ⟨1, 8, .int .i64, [.int .i64 0]⟩ := by kernel_rfl   -- int
theorem ti4 : tiOf Tryd.prog 4 = some ⟨1, 1, .bool, [.bool false]⟩ := by kernel_rfl   -- bool
theorem ti5 : tiOf Tryd.prog 5 = some ⟨1, 1, .int .u8, [.int .u8 0]⟩ := by kernel_rfl   -- uint8
theorem ti6 : tiOf Tryd.prog 6 = some ⟨1, 1, .int .u8, [.int .u8 0]⟩ := by kernel_rfl   -- abi.BoundsErrorCode
theorem ti7 : tiOf Tryd.prog 7 = some ⟨4, 24, .struct [(0, 2, 1), (1, 3, 1), (2, 4, 1), (3, 6, 1)], [.int .i64 0, .int .i64 0, .bool false, .int .u8 0]⟩ := by kernel_rfl   -- struct ( x int64; y int; signed bool; code abi.BoundsErrorCo
theorem ti8 : tiOf Tryd.prog 8 = some ⟨4, 24, .struct [(0, 2, 1), (1, 3, 1), (2, 4, 1), (3, 6, 1)], [.int .i64 0, .int .i64 0, .bool false, .int .u8 0]⟩ := by kernel_rfl   -- runtime.boundsError
theorem ti9 : tiOf Tryd.prog 9 = some ⟨1, 16, .str, [.string ⟨#[]⟩]⟩ := by kernel_rfl   -- string
theorem ti10 : tiOf Tryd.prog 10 = some ⟨1, 16, .str, [.string ⟨#[]⟩]⟩ := by kernel_rfl   -- runtime.errorString
theorem ti11 : tiOf Tryd.prog 11 = some ⟨1, 16, .str, [.string ⟨#[]⟩]⟩ := by kernel_rfl   -- runtime.plainError
theorem ti12 : tiOf Tryd.prog 12 = some ⟨1, 8, .int .u64, [.int .u64 0]⟩ := by kernel_rfl   -- uintptr
theorem ti13 : tiOf Tryd.prog 13 = some ⟨2, 24, .struct [(0, 9, 1), (1, 12, 1)], [.string ⟨#[]⟩, .int .u64 0]⟩ := by kernel_rfl   -- struct ( msg string; addr uintptr )
theorem ti14 : tiOf Tryd.prog 14 = some ⟨2, 24, .struct [(0, 9, 1), (1, 12, 1)], [.string ⟨#[]⟩, .int .u64 0]⟩ := by kernel_rfl   -- runtime.errorAddressString
theorem ti15 : tiOf Tryd.prog 15 = some ⟨1, 8, .ptr 135, [.pointer none]⟩ := by kernel_rfl   -- *runtime.TypeAssertionError
theorem ti16 : tiOf Tryd.prog 16 = some ⟨1, 8, .ptr 138, [.pointer none]⟩ := by kernel_rfl   -- *runtime.PanicNilError
theorem ti17 : tiOf Tryd.prog 17 = some ⟨1, 8, .ptr 146, [.pointer none]⟩ := by kernel_rfl   -- *abi.Type
theorem ti18 : tiOf Tryd.prog 18 = some ⟨1, 8, .struct [(0, 17, 1)], [.pointer none]⟩ := by kernel_rfl   -- struct ( typ *abi.Type )
theorem ti19 : tiOf Tryd.prog 19 = some ⟨1, 8, .struct [(0, 17, 1)], [.pointer none]⟩ := by kernel_rfl   -- maps.unhashableTypeError
theorem ti20 : tiOf Tryd.prog 20 = some ⟨1, 16, .iface, [.nilIface]⟩ := by kernel_rfl   -- interface ()
theorem ti21 : tiOf Tryd.prog 21 = some ⟨1, 4, .int .i32, [.int .i32 0]⟩ := by kernel_rfl   -- int32
theorem ti22 : tiOf Tryd.prog 22 = some ⟨1, 24, .slice 9, [.slice none 0 0]⟩ := by kernel_rfl   -- []string
theorem ti23 : tiOf Tryd.prog 23 = some ⟨5, 64, .struct [(0, 5, 1), (1, 9, 1), (2, 3, 1), (3, 22, 1), (4, 4, 1)], [.int .u8 0, .string ⟨#[]⟩, .int .i64 0, .slice none 0 0, .bool false]⟩ := by kernel_rfl   -- struct ( Scheme uint8; Host string; Port int; Parts []string
theorem ti24 : tiOf Tryd.prog 24 = some ⟨5, 64, .struct [(0, 5, 1), (1, 9, 1), (2, 3, 1), (3, 22, 1), (4, 4, 1)], [.int .u8 0, .string ⟨#[]⟩, .int .i64 0, .slice none 0 0, .bool false]⟩ := by kernel_rfl   -- api.Locator
theorem ti25 : tiOf Tryd.prog 25 = some ⟨1, 8, .func, [.nilFunc]⟩ := by kernel_rfl   -- func(api.Locator) bool
theorem ti26 : tiOf Tryd.prog 26 = some ⟨1, 8, .func, [.nilFunc]⟩ := by kernel_rfl   -- func(api.Locator) api.Locator
theorem ti27 : tiOf Tryd.prog 27 = some ⟨1, 8, .int .i64, [.int .i64 0]⟩ := by kernel_rfl   -- api.Errno
theorem ti29 : tiOf Tryd.prog 29 = some ⟨1, 8, .func, [.nilFunc]⟩ := by kernel_rfl   -- func(api.Locator) (string, api.Errno)
theorem ti31 : tiOf Tryd.prog 31 = some ⟨1, 8, .func, [.nilFunc]⟩ := by kernel_rfl   -- func(api.Locator) (string, int)
theorem ti32 : tiOf Tryd.prog 32 = some ⟨1, 8, .func, [.nilFunc]⟩ := by kernel_rfl   -- func(api.Locator) api.Errno
theorem ti33 : tiOf Tryd.prog 33 = some ⟨1, 8, .func, [.nilFunc]⟩ := by kernel_rfl   -- func(api.Locator) int
theorem ti34 : tiOf Tryd.prog 34 = some ⟨1, 8, .func, [.nilFunc]⟩ := by kernel_rfl   -- func(api.Locator, api.Locator) bool
theorem ti36 : tiOf Tryd.prog 36 = some ⟨1, 8, .func, [.nilFunc]⟩ := by kernel_rfl   -- func(string) (api.Locator, api.Errno)
theorem ti38 : tiOf Tryd.prog 38 = some ⟨1, 8, .func, [.nilFunc]⟩ := by kernel_rfl   -- func(string) (api.Locator, int)
theorem ti40 : tiOf Tryd.prog 40 = some ⟨1, 8, .func, [.nilFunc]⟩ := by kernel_rfl   -- func(string) (string, string, api.Errno)
theorem ti42 : tiOf Tryd.prog 42 = some ⟨1, 8, .func, [.nilFunc]⟩ := by kernel_rfl   -- func(string) (string, string, int)
theorem ti43 : tiOf Tryd.prog 43 = some ⟨1, 8, .func, [.nilFunc]⟩ := by kernel_rfl   -- func(string) bool
theorem ti44 : tiOf Tryd.prog 44 = some ⟨1, 8, .func, [.nilFunc]⟩ := by kernel_rfl   -- func(string) uint8
theorem ti45 : tiOf Tryd.prog 45 = some ⟨1, 8, .func, [.nilFunc]⟩ := by kernel_rfl   -- func() bool
theorem ti47 : tiOf Tryd.prog 47 = some ⟨1, 8, .func, [.nilFunc]⟩ := by kernel_rfl   -- func(string, string) (bool, api.Errno)
theorem ti48 : tiOf Tryd.prog 48 = some ⟨1, 8, .func, [.nilFunc]⟩ := by kernel_rfl   -- func(string, string, string) bool
theorem ti49 : tiOf Tryd.prog 49 = some ⟨1, 8, .func, [.nilFunc]⟩ := by kernel_rfl   -- func(string, string) (string, api.Errno)
theorem ti50 : tiOf Tryd.prog 50 = some ⟨1, 8, .func, [.nilFunc]⟩ := by kernel_rfl   -- func(string, string) (string, int)
theorem ti52 : tiOf Tryd.prog 52 = some ⟨1, 8, .func, [.nilFunc]⟩ := by kernel_rfl   -- func(string, string) (bool, int)
theorem ti53 : tiOf Tryd.prog 53 = some ⟨1, 8, .func, [.nilFunc]⟩ := by kernel_rfl   -- func(string, string) bool
theorem ti54 : tiOf Tryd.prog 54 = some ⟨1, 8, .func, [.nilFunc]⟩ := by kernel_rfl   -- func(int) string
theorem ti55 : tiOf Tryd.prog 55 = some ⟨1, 24, .slice 24, [.slice none 0 0]⟩ := by kernel_rfl   -- []api.Locator
theorem ti56 : tiOf Tryd.prog 56 = some ⟨1, 8, .func, [.nilFunc]⟩ := by kernel_rfl   -- func(api.Locator) string
theorem ti57 : tiOf Tryd.prog 57 = some ⟨1, 8, .func, [.nilFunc]⟩ := by kernel_rfl   -- func([]string, func(string) bool) bool
theorem ti58 : tiOf Tryd.prog 58 = some ⟨1, 8, .func, [.nilFunc]⟩ := by kernel_rfl   -- func(uint8) int
theorem ti60 : tiOf Tryd.prog 60 = some ⟨1, 8, .func, [.nilFunc]⟩ := by kernel_rfl   -- func(string, string) (string, string, bool)
theorem ti61 : tiOf Tryd.prog 61 = some ⟨1, 8, .func, [.nilFunc]⟩ := by kernel_rfl   -- func(string) (string, bool)
theorem ti63 : tiOf Tryd.prog 63 = some ⟨1, 8, .map 9 5, [.map none]⟩ := by kernel_rfl   -- map[string]uint8
theorem ti64 : tiOf Tryd.prog 64 = some ⟨1, 16, .iface, [.nilIface]⟩ := by kernel_rfl   -- interface ( Error() string )
theorem ti65 : tiOf Tryd.prog 65 = some ⟨1, 16, .iface, [.nilIface]⟩ := by kernel_rfl   -- error
theorem ti67 : tiOf Tryd.prog 67 = some ⟨1, 8, .func, [.nilFunc]⟩ := by kernel_rfl   -- func(string) (int, error)
theorem ti68 : tiOf Tryd.prog 68 = some ⟨1, 8, .func, [.nilFunc]⟩ := by kernel_rfl   -- func(string, int, uint8, uint8) int
theorem ti69 : tiOf Tryd.prog 69 = some ⟨256, 256, .array 256 5, (List.replicate 256 (.int .u8 0))⟩ := by kernel_rfl   -- [256]uint8
theorem ti70 : tiOf Tryd.prog 70 = some ⟨1, 8, .func, [.nilFunc]⟩ := by kernel_rfl   -- func() [256]uint8
theorem ti71 : tiOf Tryd.prog 71 = some ⟨1, 8, .func, [.nilFunc]⟩ := by kernel_rfl   -- func(uint8) bool
theorem ti72 : tiOf Tryd.prog 72 = some ⟨1, 8, .func, [.nilFunc]⟩ := by kernel_rfl   -- func() map[string]uint8
theorem ti73 : tiOf Tryd.prog 73 = some ⟨1, 8, .func, [.nilFunc]⟩ := by kernel_rfl   -- func([]string, []string) bool
theorem ti74 : tiOf Tryd.prog 74 = some ⟨1, 24, .slice 5, [.slice none 0 0]⟩ := by kernel_rfl   -- []uint8
theorem ti75 : tiOf Tryd.prog 75 = some ⟨1, 8, .func, [.nilFunc]⟩ := by kernel_rfl   -- func([]string, string) string
theorem ti76 : tiOf Tryd.prog 76 = some ⟨1, 8, .func, [.nilFunc]⟩ := by kernel_rfl   -- func(string, string) []string
theorem ti77 : tiOf Tryd.prog 77 = some ⟨1, 8, .func, [.nilFunc]⟩ := by kernel_rfl   -- func([]string, func(string) bool) int
theorem ti78 : tiOf Tryd.prog 78 = some ⟨1, 8, .func, [.nilFunc]⟩ := by kernel_rfl   -- func(string, string, int, int, error) error
theorem ti79 : tiOf Tryd.prog 79 = some ⟨1, 8, .ptr 81, [.pointer none]⟩ := by kernel_rfl   -- *strings.Builder
theorem ti80 : tiOf Tryd.prog 80 = some ⟨2, 32, .struct [(0, 79, 1), (1, 74, 1)], [.pointer none, .slice none 0 0]⟩ := by kernel_rfl   -- struct ( addr *strings.Builder; buf []uint8 )
theorem ti81 : tiOf Tryd.prog 81 = some ⟨2, 32, .struct [(0, 79, 1), (1, 74, 1)], [.pointer none, .slice none 0 0]⟩ := by kernel_rfl   -- strings.Builder
theorem ti82 : tiOf Tryd.prog 82 = some ⟨1, 8, .func, [.nilFunc]⟩ := by kernel_rfl   -- func(int)
theorem ti83 : tiOf Tryd.prog 83 = some ⟨1, 8, .func, [.nilFunc]⟩ := by kernel_rfl   -- func() string
theorem ti84 : tiOf Tryd.prog 84 = some ⟨1, 8, .func, [.nilFunc]⟩ := by kernel_rfl   -- func(string, string, int, int) []string
theorem ti85 : tiOf Tryd.prog 85 = some ⟨1, 8, .func, [.nilFunc]⟩ := by kernel_rfl   -- func(string, string) int
theorem ti86 : tiOf Tryd.prog 86 = some ⟨1, 8, .int .i64, [.int .i64 0]⟩ := by kernel_rfl   -- strconv.Error
theorem ti88 : tiOf Tryd.prog 88 = some ⟨1, 8, .func, [.nilFunc]⟩ := by kernel_rfl   -- func(string, int, int) (int64, error)
theorem ti89 : tiOf Tryd.prog 89 = some ⟨1, 8, .ptr 103, [.pointer none]⟩ := by kernel_rfl   -- *strconv.NumError
theorem ti90 : tiOf Tryd.prog 90 = some ⟨1, 8, .func, [.nilFunc]⟩ := by kernel_rfl   -- func(string, string) *strconv.NumError
theorem ti91 : tiOf Tryd.prog 91 = some ⟨1, 8, .func, [.nilFunc]⟩ := by kernel_rfl   -- func(string, string, int) *strconv.NumError
theorem ti92 : tiOf Tryd.prog 92 = some ⟨1, 8, .func, [.nilFunc]⟩ := by kernel_rfl   -- func(int64, int) string
theorem ti93 : tiOf Tryd.prog 93 = some ⟨1, 8, .ptr 5, [.pointer none]⟩ := by kernel_rfl   -- *uint8
theorem ti94 : tiOf Tryd.prog 94 = some ⟨1, 8, .func, [.nilFunc]⟩ := by kernel_rfl   -- func(string, int) []string
theorem ti95 : tiOf Tryd.prog 95 = some ⟨1, 8, .func, [.nilFunc]⟩ := by kernel_rfl   -- func(string, uint8) int
theorem ti96 : tiOf Tryd.prog 96 = some ⟨1, 8, .func, [.nilFunc]⟩ := by kernel_rfl   -- func(int) int
theorem ti97 : tiOf Tryd.prog 97 = some ⟨1, 8, .int .u64, [.int .u64 0]⟩ := by kernel_rfl   -- uint
theorem ti98 : tiOf Tryd.prog 98 = some ⟨1, 8, .int .u64, [.int .u64 0]⟩ := by kernel_rfl   -- uint64
theorem ti100 : tiOf Tryd.prog 100 = some ⟨1, 8, .func, [.nilFunc]⟩ := by kernel_rfl   -- func(string, int, int) (uint64, error)
theorem ti101 : tiOf Tryd.prog 101 = some ⟨1, 8, .func, [.nilFunc]⟩ := by kernel_rfl   -- func(string) string
theorem ti102 : tiOf Tryd.prog 102 = some ⟨3, 48, .struct [(0, 9, 1), (1, 9, 1), (2, 65, 1)], [.string ⟨#[]⟩, .string ⟨#[]⟩, .nilIface]⟩ := by kernel_rfl   -- struct ( Func string; Num string; Err error )
theorem ti103 : tiOf Tryd.prog 103 = some ⟨3, 48, .struct [(0, 9, 1), (1, 9, 1), (2, 65, 1)], [.string ⟨#[]⟩, .string ⟨#[]⟩, .nilIface]⟩ := by kernel_rfl   -- strconv.NumError
theorem ti104 : tiOf Tryd.prog 104 = some ⟨1, 8, .func, [.nilFunc]⟩ := by kernel_rfl   -- func(string) error
theorem ti105 : tiOf Tryd.prog 105 = some ⟨24, 24, .array 24 5, (List.replicate 24 (.int .u8 0))⟩ := by kernel_rfl   -- [24]uint8
theorem ti106 : tiOf Tryd.prog 106 = some ⟨1, 8, .func, [.nilFunc]⟩ := by kernel_rfl   -- func(uint64) int
theorem ti107 : tiOf Tryd.prog 107 = some ⟨1, 8, .func, [.nilFunc]⟩ := by kernel_rfl   -- func([]uint8, uint64)
theorem ti109 : tiOf Tryd.prog 109 = some ⟨1, 8, .func, [.nilFunc]⟩ := by kernel_rfl   -- func([]uint8, uint64, int, bool, bool) ([]uint8, string)
theorem ti111 : tiOf Tryd.prog 111 = some ⟨1, 8, .func, [.nilFunc]⟩ := by kernel_rfl   -- func(raw.Pointer) raw.Pointer
theorem ti112 : tiOf Tryd.prog 112 = some ⟨1, 8, .func, [.nilFunc]⟩ := by kernel_rfl   -- func(int) []uint8
theorem ti113 : tiOf Tryd.prog 113 = some ⟨1, 8, .func, [.nilFunc]⟩ := by kernel_rfl   -- func(string) int
theorem ti115 : tiOf Tryd.prog 115 = some ⟨1, 8, .func, [.nilFunc]⟩ := by kernel_rfl   -- func(string) (int32, int)
theorem ti116 : tiOf Tryd.prog 116 = some ⟨1, 4, .int .u32, [.int .u32 0]⟩ := by kernel_rfl   -- uint32
theorem ti118 : tiOf Tryd.prog 118 = some ⟨1, 8, .func, [.nilFunc]⟩ := by kernel_rfl   -- func(string) (uint32, uint32)
theorem ti119 : tiOf Tryd.prog 119 = some ⟨1, 8, .func, [.nilFunc]⟩ := by kernel_rfl   -- func(uint8) uint8
theorem ti120 : tiOf Tryd.prog 120 = some ⟨1, 8, .ptr 122, [.pointer none]⟩ := by kernel_rfl   -- *errors.errorString
theorem ti121 : tiOf Tryd.prog 121 = some ⟨1, 16, .struct [(0, 9, 1)], [.string ⟨#[]⟩]⟩ := by kernel_rfl   -- struct ( s string )
theorem ti122 : tiOf Tryd.prog 122 = some ⟨1, 16, .struct [(0, 9, 1)], [.string ⟨#[]⟩]⟩ := by kernel_rfl   -- errors.errorString
theorem ti123 : tiOf Tryd.prog 123 = some ⟨1, 8, .func, [.nilFunc]⟩ := by kernel_rfl   -- func(bool) int
theorem ti124 : tiOf Tryd.prog 124 = some ⟨20, 160, .array 20 98, (List.replicate 20 (.int .u64 0))⟩ := by kernel_rfl   -- [20]uint64
theorem ti125 : tiOf Tryd.prog 125 = some ⟨65, 65, .array 65 5, (List.replicate 65 (.int .u8 0))⟩ := by kernel_rfl   -- [65]uint8
theorem ti126 : tiOf Tryd.prog 126 = some ⟨1, 8, .func, [.nilFunc]⟩ := by kernel_rfl   -- func(int) bool
theorem ti127 : tiOf Tryd.prog 127 = some ⟨1, 8, .func, [.nilFunc]⟩ := by kernel_rfl   -- func(uint) int
theorem ti128 : tiOf Tryd.prog 128 = some ⟨1, 8, .func, [.nilFunc]⟩ := by kernel_rfl   -- func(uint32) int
theorem ti129 : tiOf Tryd.prog 129 = some ⟨2, 2, .struct [(0, 5, 1), (1, 5, 1)], [.int .u8 0, .int .u8 0]⟩ := by kernel_rfl   -- struct ( lo uint8; hi uint8 )
theorem ti130 : tiOf Tryd.prog 130 = some ⟨2, 2, .struct [(0, 5, 1), (1, 5, 1)], [.int .u8 0, .int .u8 0]⟩ := by kernel_rfl   -- utf8.acceptRange
theorem ti131 : tiOf Tryd.prog 131 = some ⟨32, 32, .array 16 130, (List.replicate 32 (.int .u8 0))⟩ := by kernel_rfl   -- [16]utf8.acceptRange
theorem ti132 : tiOf Tryd.prog 132 = some ⟨32, 32, .array 32 5, (List.replicate 32 (.int .u8 0))⟩ := by kernel_rfl   -- [32]uint8
theorem ti133 : tiOf Tryd.prog 133 = some ⟨64, 64, .array 64 5, (List.replicate 64 (.int .u8 0))⟩ := by kernel_rfl   -- [64]uint8
theorem ti134 : tiOf Tryd.prog 134 = some ⟨4, 40, .struct [(0, 17, 1), (1, 17, 1), (2, 17, 1), (3, 9, 1)], [.pointer none, .pointer none, .pointer none, .string ⟨#[]⟩]⟩ := by kernel_rfl   -- struct ( _interface *abi.Type; concrete *abi.Type; asserted 
theorem ti135 : tiOf Tryd.prog 135 = some ⟨4, 40, .struct [(0, 17, 1), (1, 17, 1), (2, 17, 1), (3, 9, 1)], [.pointer none, .pointer none, .pointer none, .string ⟨#[]⟩]⟩ := by kernel_rfl   -- runtime.TypeAssertionError
theorem ti136 : tiOf Tryd.prog 136 = some ⟨0, 0, .array 0 16, []⟩ := by kernel_rfl   -- [0]*runtime.PanicNilError
theorem ti137 : tiOf Tryd.prog 137 = some ⟨0, 0, .struct [(0, 136, 0)], []⟩ := by kernel_rfl   -- struct ( _ [0]*runtime.PanicNilError )
theorem ti138 : tiOf Tryd.prog 138 = some ⟨0, 0, .struct [(0, 136, 0)], []⟩ := by kernel_rfl   -- runtime.PanicNilError
theorem ti139 : tiOf Tryd.prog 139 = some ⟨1, 8, .func, [.nilFunc]⟩ := by kernel_rfl   -- func() int
theorem ti140 : tiOf Tryd.prog 140 = some ⟨1, 1, .int .u8, [.int .u8 0]⟩ := by kernel_rfl   -- abi.TFlag
theorem ti141 : tiOf Tryd.prog 141 = some ⟨1, 1, .int .u8, [.int .u8 0]⟩ := by kernel_rfl   -- abi.Kind
theorem ti142 : tiOf Tryd.prog 142 = some ⟨1, 8, .func, [.nilFunc]⟩ := by kernel_rfl   -- func(raw.Pointer, raw.Pointer) bool
theorem ti143 : tiOf Tryd.prog 143 = some ⟨1, 4, .int .i32, [.int .i32 0]⟩ := by kernel_rfl   -- abi.NameOff
theorem ti144 : tiOf Tryd.prog 144 = some ⟨1, 4, .int .i32, [.int .i32 0]⟩ := by kernel_rfl   -- abi.TypeOff
theorem ti145 : tiOf Tryd.prog 145 = some ⟨11, 48, .struct [(0, 12, 1), (1, 12, 1), (2, 116, 1), (3, 140, 1), (4, 5, 1), (5, 5, 1), (6, 141, 1), (7, 142, 1), (8, 93, 1), (9, 143, 1), (10, 144, 1)], [.int .u64 0, .int .u64 0, .int .u32 0, .int .u8 0, .int .u8 0, .int .u8 0, .int .u8 0, .nilFunc, .pointer none, .int .i32 0, .int .i32 0]⟩ := by kernel_rfl   -- struct ( Size_ uintptr; PtrBytes uintptr; Hash uint32; TFlag
theorem ti146 : tiOf Tryd.prog 146 = some ⟨11, 48, .struct [(0, 12, 1), (1, 12, 1), (2, 116, 1), (3, 140, 1), (4, 5, 1), (5, 5, 1), (6, 141, 1), (7, 142, 1), (8, 93, 1), (9, 143, 1), (10, 144, 1)], [.int .u64 0, .int .u64 0, .int .u32 0, .int .u8 0, .int .u8 0, .int .u8 0, .int .u8 0, .nilFunc, .pointer none, .int .i32 0, .int .i32 0]⟩ := by kernel_rfl   -- abi.Type
theorem cb3 : callable Tryd.prog 3 = true := by kernel_rfl   -- gatepath/gatepathlaw09.LocatorChecks
theorem cb4 : callable Tryd.prog 4 = true := by kernel_rfl   -- gatepath/gatepathlaw09.LocatorParses
theorem cb5 : callable Tryd.prog 5 = true := by kernel_rfl   -- gatepath/gatepathlaw09.LocatorWithin
theorem cb6 : callable Tryd.prog 6 = true := by kernel_rfl   -- gatepath/gatepathlaw09.LocatorBack
theorem cb7 : callable Tryd.prog 7 = true := by kernel_rfl   -- gatepath/gatepathlaw09.LocatorOnce
theorem cb8 : callable Tryd.prog 8 = true := by kernel_rfl   -- gatepath/gatepathlaw09.LocatorPaths
theorem cb9 : callable Tryd.prog 9 = true := by kernel_rfl   -- gatepath/gatepathlaw09.LocatorNames
theorem cb10 : callable Tryd.prog 10 = true := by kernel_rfl   -- gatepath/gatepathlaw09.LocatorJoins
theorem cb11 : callable Tryd.prog 11 = true := by kernel_rfl   -- gatepath/gatepathref09.Great
theorem cb12 : callable Tryd.prog 12 = true := by kernel_rfl   -- gatepath/gatepathref09.Twin
theorem cb13 : callable Tryd.prog 13 = true := by kernel_rfl   -- gatepath/locator.Text
theorem cb14 : callable Tryd.prog 14 = true := by kernel_rfl   -- gatepath/gatepathref09.Text
theorem cb15 : callable Tryd.prog 15 = true := by kernel_rfl   -- gatepath/locator.Check
theorem cb16 : callable Tryd.prog 16 = true := by kernel_rfl   -- gatepath/gatepathref09.Check
theorem cb17 : callable Tryd.prog 17 = true := by kernel_rfl   -- gatepath/gatepathref09.Same
theorem cb18 : callable Tryd.prog 18 = true := by kernel_rfl   -- gatepath/locator.Parse
theorem cb19 : callable Tryd.prog 19 = true := by kernel_rfl   -- gatepath/gatepathref09.Parse
theorem cb20 : callable Tryd.prog 20 = true := by kernel_rfl   -- gatepath/locator.Split
theorem cb21 : callable Tryd.prog 21 = true := by kernel_rfl   -- gatepath/gatepathref09.Split
theorem cb22 : callable Tryd.prog 22 = true := by kernel_rfl   -- gatepath/locator.Name
theorem cb23 : callable Tryd.prog 23 = true := by kernel_rfl   -- gatepath/gatepathref09.Name
theorem cb24 : callable Tryd.prog 24 = true := by kernel_rfl   -- gatepath/locator.Kind
theorem cb25 : callable Tryd.prog 25 = true := by kernel_rfl   -- gatepath/gatepathref09.Kind
theorem cb26 : callable Tryd.prog 26 = true := by kernel_rfl   -- gatepath/gatepathlaw09.alive
theorem cb27 : callable Tryd.prog 27 = true := by kernel_rfl   -- gatepath/locator.Within
theorem cb28 : callable Tryd.prog 28 = true := by kernel_rfl   -- gatepath/locator.Join
theorem cb29 : callable Tryd.prog 29 = true := by kernel_rfl   -- gatepath/gatepathref09.Join
theorem cb30 : callable Tryd.prog 30 = true := by kernel_rfl   -- gatepath/gatepathref09.Within
theorem cb31 : callable Tryd.prog 31 = true := by kernel_rfl   -- gatepath/gatepathlaw09.letters
theorem cb32 : callable Tryd.prog 32 = true := by kernel_rfl   -- gatepath/gatepathlaw09.refused
theorem cb33 : callable Tryd.prog 33 = true := by kernel_rfl   -- gatepath/locator.write
theorem cb34 : callable Tryd.prog 34 = true := by kernel_rfl   -- gatepath/gatepathref09.Write
theorem cb35 : callable Tryd.prog 35 = true := by kernel_rfl   -- gatepath/locator.host
theorem cb36 : callable Tryd.prog 36 = true := by kernel_rfl   -- slices.ContainsFunc[[]string,string]
theorem cb37 : callable Tryd.prog 37 = true := by kernel_rfl   -- gatepath/locator.Check$1
theorem cb38 : callable Tryd.prog 38 = true := by kernel_rfl   -- gatepath/gatepathref09.host
theorem cb39 : callable Tryd.prog 39 = true := by kernel_rfl   -- gatepath/gatepathref09.usual
theorem cb40 : callable Tryd.prog 40 = true := by kernel_rfl   -- gatepath/locator.Parse$1
theorem cb41 : callable Tryd.prog 41 = true := by kernel_rfl   -- strings.Cut
theorem cb42 : callable Tryd.prog 42 = true := by kernel_rfl   -- strconv.Atoi
theorem cb43 : callable Tryd.prog 43 = true := by kernel_rfl   -- gatepath/gatepathref09.until
theorem cb44 : callable Tryd.prog 44 = true := by kernel_rfl   -- gatepath/locator.class
theorem cb45 : callable Tryd.prog 45 = true := by kernel_rfl   -- gatepath/gatepathref09.letter
theorem cb46 : callable Tryd.prog 46 = true := by kernel_rfl   -- gatepath/locator.ends
theorem cb47 : callable Tryd.prog 47 = true := by kernel_rfl   -- slices.Equal[[]string,string]
theorem cb48 : callable Tryd.prog 48 = true := by kernel_rfl   -- gatepath/gatepathref09.Holds
theorem cb49 : callable Tryd.prog 49 = true := by kernel_rfl   -- strconv.Itoa
theorem cb50 : callable Tryd.prog 50 = true := by kernel_rfl   -- strings.Join
theorem cb51 : callable Tryd.prog 51 = true := by kernel_rfl   -- gatepath/gatepathref09.Decimal
theorem cb52 : callable Tryd.prog 52 = true := by kernel_rfl   -- strings.Split
theorem cb53 : callable Tryd.prog 53 = true := by kernel_rfl   -- strings.HasPrefix
theorem cb54 : callable Tryd.prog 54 = true := by kernel_rfl   -- strings.HasSuffix
theorem cb55 : callable Tryd.prog 55 = true := by kernel_rfl   -- slices.IndexFunc[[]string,string]
theorem cb56 : callable Tryd.prog 56 = true := by kernel_rfl   -- internal/stringslite.Cut
theorem cb57 : callable Tryd.prog 57 = true := by kernel_rfl   -- internal/strconv.Atoi
theorem cb58 : callable Tryd.prog 58 = true := by kernel_rfl   -- strconv.toError
theorem cb59 : callable Tryd.prog 59 = true := by kernel_rfl   -- internal/strconv.Itoa
theorem cb60 : callable Tryd.prog 60 = true := by kernel_rfl   -- (*strings.Builder).Grow
theorem cb61 : callable Tryd.prog 61 = true := by kernel_rfl   -- (*strings.Builder).WriteString
theorem cb62 : callable Tryd.prog 62 = true := by kernel_rfl   -- (*strings.Builder).String
theorem cb63 : callable Tryd.prog 63 = true := by kernel_rfl   -- strings.genSplit
theorem cb64 : callable Tryd.prog 64 = true := by kernel_rfl   -- internal/stringslite.HasPrefix
theorem cb65 : callable Tryd.prog 65 = true := by kernel_rfl   -- internal/stringslite.HasSuffix
theorem cb66 : callable Tryd.prog 66 = true := by kernel_rfl   -- internal/stringslite.Index
theorem cb67 : callable Tryd.prog 67 = true := by kernel_rfl   -- internal/strconv.ParseInt
theorem cb68 : callable Tryd.prog 68 = true := by kernel_rfl   -- strconv.syntaxError
theorem cb69 : callable Tryd.prog 69 = true := by kernel_rfl   -- strconv.rangeError
theorem cb70 : callable Tryd.prog 70 = true := by kernel_rfl   -- strconv.baseError
theorem cb71 : callable Tryd.prog 71 = true := by kernel_rfl   -- strconv.bitSizeError
theorem cb72 : callable Tryd.prog 72 = true := by kernel_rfl   -- internal/strconv.FormatInt
theorem cb73 : callable Tryd.prog 73 = true := by kernel_rfl   -- (*strings.Builder).copyCheck
theorem cb74 : callable Tryd.prog 74 = true := by kernel_rfl   -- (*strings.Builder).grow
theorem cb75 : callable Tryd.prog 75 = true := by kernel_rfl   -- strings.explode
theorem cb76 : callable Tryd.prog 76 = true := by kernel_rfl   -- strings.Count
theorem cb77 : callable Tryd.prog 77 = true := by kernel_rfl   -- strings.Index
theorem cb78 : callable Tryd.prog 78 = true := by kernel_rfl   -- internal/stringslite.IndexByte
theorem cb79 : callable Tryd.prog 79 = false := by kernel_rfl   -- internal/bytealg.IndexString
theorem cb80 : callable Tryd.prog 80 = true := by kernel_rfl   -- internal/bytealg.Cutover
theorem cb81 : callable Tryd.prog 81 = true := by kernel_rfl   -- internal/bytealg.IndexRabinKarp[string]
theorem cb82 : callable Tryd.prog 82 = true := by kernel_rfl   -- internal/strconv.ParseUint
theorem cb83 : callable Tryd.prog 83 = true := by kernel_rfl   -- internal/stringslite.Clone
theorem cb84 : callable Tryd.prog 84 = true := by kernel_rfl   -- errors.New
theorem cb85 : callable Tryd.prog 85 = true := by kernel_rfl   -- internal/strconv.small
theorem cb86 : callable Tryd.prog 86 = true := by kernel_rfl   -- internal/strconv.numDigits
theorem cb87 : callable Tryd.prog 87 = true := by kernel_rfl   -- internal/strconv.formatBase10
theorem cb88 : callable Tryd.prog 88 = true := by kernel_rfl   -- internal/strconv.formatBits
theorem cb89 : callable Tryd.prog 89 = false := by kernel_rfl   -- internal/abi.NoEscape
theorem cb90 : callable Tryd.prog 90 = false := by kernel_rfl   -- internal/bytealg.MakeNoZero
theorem cb91 : callable Tryd.prog 91 = true := by kernel_rfl   -- unicode/utf8.RuneCountInString
theorem cb92 : callable Tryd.prog 92 = true := by kernel_rfl   -- unicode/utf8.DecodeRuneInString
theorem cb93 : callable Tryd.prog 93 = false := by kernel_rfl   -- internal/bytealg.CountString
theorem cb94 : callable Tryd.prog 94 = false := by kernel_rfl   -- internal/bytealg.IndexByteString
theorem cb95 : callable Tryd.prog 95 = true := by kernel_rfl   -- internal/bytealg.hashStr[string]
theorem cb96 : callable Tryd.prog 96 = true := by kernel_rfl   -- internal/strconv.lower
theorem cb97 : callable Tryd.prog 97 = true := by kernel_rfl   -- internal/strconv.underscoreOK
theorem cb98 : callable Tryd.prog 98 = true := by kernel_rfl   -- internal/strconv.log10Pow2
theorem cb99 : callable Tryd.prog 99 = true := by kernel_rfl   -- math/bits.Len64
theorem cb100 : callable Tryd.prog 100 = true := by kernel_rfl   -- internal/strconv.bool2[int]
theorem cb101 : callable Tryd.prog 101 = true := by kernel_rfl   -- internal/strconv.isPowerOfTwo
theorem cb102 : callable Tryd.prog 102 = true := by kernel_rfl   -- math/bits.TrailingZeros
theorem cb103 : callable Tryd.prog 103 = true := by kernel_rfl   -- unicode/utf8.decodeRuneInStringSlow
theorem cb104 : callable Tryd.prog 104 = true := by kernel_rfl   -- math/bits.TrailingZeros32
theorem cb105 : callable Tryd.prog 105 = true := by kernel_rfl   -- math/bits.TrailingZeros64
theorem cb106 : callable Tryd.prog 106 = false := by kernel_rfl   -- (runtime.boundsError).Error
theorem cb107 : callable Tryd.prog 107 = false := by kernel_rfl   -- (runtime.boundsError).RuntimeError
theorem cb108 : callable Tryd.prog 108 = false := by kernel_rfl   -- (runtime.errorString).Error
theorem cb109 : callable Tryd.prog 109 = false := by kernel_rfl   -- (runtime.errorString).RuntimeError
theorem cb110 : callable Tryd.prog 110 = false := by kernel_rfl   -- (runtime.plainError).Error
theorem cb111 : callable Tryd.prog 111 = false := by kernel_rfl   -- (runtime.plainError).RuntimeError
theorem cb112 : callable Tryd.prog 112 = false := by kernel_rfl   -- (runtime.errorAddressString).Error
theorem cb113 : callable Tryd.prog 113 = false := by kernel_rfl   -- (runtime.errorAddressString).RuntimeError
theorem cb114 : callable Tryd.prog 114 = false := by kernel_rfl   -- (*runtime.TypeAssertionError).Error
theorem cb115 : callable Tryd.prog 115 = false := by kernel_rfl   -- (*runtime.TypeAssertionError).RuntimeError
theorem cb116 : callable Tryd.prog 116 = false := by kernel_rfl   -- (*runtime.PanicNilError).Error
theorem cb117 : callable Tryd.prog 117 = false := by kernel_rfl   -- (*runtime.PanicNilError).RuntimeError
theorem cb118 : callable Tryd.prog 118 = false := by kernel_rfl   -- (*internal/abi.Type).Align
theorem cb119 : callable Tryd.prog 119 = false := by kernel_rfl   -- (internal/runtime/maps.unhashableTypeError).Error
theorem cb120 : callable Tryd.prog 120 = false := by kernel_rfl   -- (internal/runtime/maps.unhashableTypeError).RuntimeError
theorem cb121 : callable Tryd.prog 121 = false := by kernel_rfl   -- (gatepath/api.Errno).Error
theorem cb122 : callable Tryd.prog 122 = false := by kernel_rfl   -- (*strings.Builder).Reset
theorem cb123 : callable Tryd.prog 123 = false := by kernel_rfl   -- (internal/strconv.Error).Error
theorem cb124 : callable Tryd.prog 124 = false := by kernel_rfl   -- (*strconv.NumError).Error
theorem cb125 : callable Tryd.prog 125 = false := by kernel_rfl   -- (*errors.errorString).Error
theorem cb126 : callable Tryd.prog 126 = false := by kernel_rfl   -- (internal/abi.Kind).String
theorem cb127 : callable Tryd.prog 127 = false := by kernel_rfl   -- var's door: gosem.cut.vars holds initialisers alone; see the manifest's row cutvarsword (look 11, test files too)
theorem cb128 : callable Tryd.prog 128 = false := by kernel_rfl   -- var's door: internal/strconv.uint64pow10 is laid by its own initialiser, plain data (look 11)
theorem cb129 : callable Tryd.prog 129 = false := by kernel_rfl   -- var's door: math/bits.deBruijn32tab is laid by its own initialiser, plain data (look 11)
theorem cb130 : callable Tryd.prog 130 = false := by kernel_rfl   -- var's door: math/bits.deBruijn64tab is laid by its own initialiser, plain data (look 11)
theorem cb131 : callable Tryd.prog 131 = false := by kernel_rfl   -- var's door: strconv.ErrRange is laid by its own call of errors.New on one literal (look 11)
theorem cb132 : callable Tryd.prog 132 = false := by kernel_rfl   -- var's door: strconv.ErrSyntax is laid by its own call of errors.New on one literal (look 11)
theorem cb133 : callable Tryd.prog 133 = false := by kernel_rfl   -- var's door: the look of gosem.cut.vars went over the folder that the caller named as the repository's root (look 11)
theorem cb134 : callable Tryd.prog 134 = false := by kernel_rfl   -- var's door: unicode/utf8.acceptRanges is laid by its own initialiser, plain data (look 11)
theorem cb135 : callable Tryd.prog 135 = false := by kernel_rfl   -- var's door: unicode/utf8.first is laid by its text alone (pinned 1)
theorem cb136 : callable Tryd.prog 136 = true := by kernel_rfl   -- gosem.cut.vars
end Go.Proofs.YtpcancnnbjadeaaDoor
