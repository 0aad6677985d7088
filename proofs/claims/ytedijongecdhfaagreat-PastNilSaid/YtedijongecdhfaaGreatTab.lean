/-
  An abstract interpreter of loaded code, proved to tell the truth; a part of the proof that redpencillaw48.PastNil returns true, whatever the input.
-/
import Derived.Test.YtedijongecdhfaaGreatProg
import Derived.Test.YtedijongecdhfaaGreatVi
namespace Go.VI

def Tryz.ti1 : TI := { k := .func, size := 1, bytes := 8, zero := [.lit (.nilFunc)], flat := false }
def Tryz.ti2 : TI := { k := .int .i64, size := 1, bytes := 8, zero := [.int .i64 0], flat := true }
def Tryz.ti3 : TI := { k := .int .i64, size := 1, bytes := 8, zero := [.int .i64 0], flat := true }
def Tryz.ti4 : TI := { k := .bool, size := 1, bytes := 1, zero := [.bool false], flat := true }
def Tryz.ti5 : TI := { k := .int .u8, size := 1, bytes := 1, zero := [.int .u8 0], flat := true }
def Tryz.ti6 : TI := { k := .int .u8, size := 1, bytes := 1, zero := [.int .u8 0], flat := true }
def Tryz.ti7 : TI := { k := .struct [(0, 2), (1, 3), (2, 4), (3, 6)], size := 4, bytes := 24, zero := [.int .i64 0, .int .i64 0, .bool false, .int .u8 0], flat := false }
def Tryz.ti8 : TI := { k := .struct [(0, 2), (1, 3), (2, 4), (3, 6)], size := 4, bytes := 24, zero := [.int .i64 0, .int .i64 0, .bool false, .int .u8 0], flat := false }
def Tryz.ti9 : TI := { k := .str, size := 1, bytes := 16, zero := [.str .empty], flat := true }
def Tryz.ti10 : TI := { k := .str, size := 1, bytes := 16, zero := [.str .empty], flat := true }
def Tryz.ti11 : TI := { k := .str, size := 1, bytes := 16, zero := [.str .empty], flat := true }
def Tryz.ti12 : TI := { k := .int .u64, size := 1, bytes := 8, zero := [.int .u64 0], flat := true }
def Tryz.ti13 : TI := { k := .struct [(0, 9), (1, 12)], size := 2, bytes := 24, zero := [.str .empty, .int .u64 0], flat := false }
def Tryz.ti14 : TI := { k := .struct [(0, 9), (1, 12)], size := 2, bytes := 24, zero := [.str .empty, .int .u64 0], flat := false }
def Tryz.ti15 : TI := { k := .ptr, size := 1, bytes := 8, zero := [.lit (.pointer none)], flat := false }
def Tryz.ti16 : TI := { k := .ptr, size := 1, bytes := 8, zero := [.lit (.pointer none)], flat := false }
def Tryz.ti17 : TI := { k := .ptr, size := 1, bytes := 8, zero := [.lit (.pointer none)], flat := false }
def Tryz.ti18 : TI := { k := .struct [(0, 17)], size := 1, bytes := 8, zero := [.lit (.pointer none)], flat := false }
def Tryz.ti19 : TI := { k := .struct [(0, 17)], size := 1, bytes := 8, zero := [.lit (.pointer none)], flat := false }
def Tryz.ti21 : TI := { k := .int .i32, size := 1, bytes := 4, zero := [.int .i32 0], flat := true }
def Tryz.ti22 : TI := { k := .slice 35, size := 1, bytes := 24, zero := [.lit (.slice none 0 0)], flat := false }
def Tryz.ti23 : TI := { k := .func, size := 1, bytes := 8, zero := [.lit (.nilFunc)], flat := false }
def Tryz.ti24 : TI := { k := .ptr, size := 1, bytes := 8, zero := [.lit (.pointer none)], flat := false }
def Tryz.ti25 : TI := { k := .map 32 94, size := 1, bytes := 8, zero := [.lit (.map none)], flat := false }
def Tryz.ti26 : TI := { k := .struct [(0, 25)], size := 1, bytes := 8, zero := [.lit (.map none)], flat := false }
def Tryz.ti27 : TI := { k := .struct [(0, 25)], size := 1, bytes := 8, zero := [.lit (.map none)], flat := false }
def Tryz.ti28 : TI := { k := .slice 94, size := 1, bytes := 24, zero := [.lit (.slice none 0 0)], flat := false }
def Tryz.ti29 : TI := { k := .slice 70, size := 1, bytes := 24, zero := [.lit (.slice none 0 0)], flat := false }
def Tryz.ti30 : TI := { k := .slice 70, size := 1, bytes := 24, zero := [.lit (.slice none 0 0)], flat := false }
def Tryz.ti31 : TI := { k := .struct [(0, 3), (1, 3)], size := 2, bytes := 16, zero := [.int .i64 0, .int .i64 0], flat := false }
def Tryz.ti32 : TI := { k := .struct [(0, 3), (1, 3)], size := 2, bytes := 16, zero := [.int .i64 0, .int .i64 0], flat := true }
def Tryz.ti33 : TI := { k := .int .i64, size := 1, bytes := 8, zero := [.int .i64 0], flat := true }
def Tryz.ti34 : TI := { k := .struct [(0, 3), (1, 30), (2, 32), (4, 3), (5, 3), (6, 33), (7, 4)], size := 8, bytes := 80, zero := [.int .i64 0, .lit (.slice none 0 0), .int .i64 0, .int .i64 0, .int .i64 0, .int .i64 0, .int .i64 0, .bool false], flat := false }
def Tryz.ti35 : TI := { k := .struct [(0, 3), (1, 30), (2, 32), (4, 3), (5, 3), (6, 33), (7, 4)], size := 8, bytes := 80, zero := [.int .i64 0, .lit (.slice none 0 0), .int .i64 0, .int .i64 0, .int .i64 0, .int .i64 0, .int .i64 0, .bool false], flat := false }
def Tryz.ti36 : TI := { k := .int .i64, size := 1, bytes := 8, zero := [.int .i64 0], flat := true }
def Tryz.ti38 : TI := { k := .func, size := 1, bytes := 8, zero := [.lit (.nilFunc)], flat := false }
def Tryz.ti39 : TI := { k := .func, size := 1, bytes := 8, zero := [.lit (.nilFunc)], flat := false }
def Tryz.ti40 : TI := { k := .func, size := 1, bytes := 8, zero := [.lit (.nilFunc)], flat := false }
def Tryz.ti41 : TI := { k := .func, size := 1, bytes := 8, zero := [.lit (.nilFunc)], flat := false }
def Tryz.ti42 : TI := { k := .func, size := 1, bytes := 8, zero := [.lit (.nilFunc)], flat := false }
def Tryz.ti43 : TI := { k := .func, size := 1, bytes := 8, zero := [.lit (.nilFunc)], flat := false }
def Tryz.ti44 : TI := { k := .func, size := 1, bytes := 8, zero := [.lit (.nilFunc)], flat := false }
def Tryz.ti45 : TI := { k := .func, size := 1, bytes := 8, zero := [.lit (.nilFunc)], flat := false }
def Tryz.ti46 : TI := { k := .func, size := 1, bytes := 8, zero := [.lit (.nilFunc)], flat := false }
def Tryz.ti47 : TI := { k := .func, size := 1, bytes := 8, zero := [.lit (.nilFunc)], flat := false }
def Tryz.ti48 : TI := { k := .func, size := 1, bytes := 8, zero := [.lit (.nilFunc)], flat := false }
def Tryz.ti49 : TI := { k := .func, size := 1, bytes := 8, zero := [.lit (.nilFunc)], flat := false }
def Tryz.ti50 : TI := { k := .slice 32, size := 1, bytes := 24, zero := [.lit (.slice none 0 0)], flat := false }
def Tryz.ti51 : TI := { k := .slice 32, size := 1, bytes := 24, zero := [.lit (.slice none 0 0)], flat := false }
def Tryz.ti52 : TI := { k := .struct [(0, 51), (1, 50)], size := 2, bytes := 48, zero := [.lit (.slice none 0 0), .lit (.slice none 0 0)], flat := false }
def Tryz.ti53 : TI := { k := .struct [(0, 51), (1, 50)], size := 2, bytes := 48, zero := [.lit (.slice none 0 0), .lit (.slice none 0 0)], flat := false }
def Tryz.ti54 : TI := { k := .struct [(0, 53), (2, 53)], size := 4, bytes := 96, zero := [.lit (.slice none 0 0), .lit (.slice none 0 0), .lit (.slice none 0 0), .lit (.slice none 0 0)], flat := false }
def Tryz.ti55 : TI := { k := .struct [(0, 53), (2, 53)], size := 4, bytes := 96, zero := [.lit (.slice none 0 0), .lit (.slice none 0 0), .lit (.slice none 0 0), .lit (.slice none 0 0)], flat := false }
def Tryz.ti56 : TI := { k := .func, size := 1, bytes := 8, zero := [.lit (.nilFunc)], flat := false }
def Tryz.ti57 : TI := { k := .func, size := 1, bytes := 8, zero := [.lit (.nilFunc)], flat := false }
def Tryz.ti58 : TI := { k := .struct [(0, 3), (1, 3), (2, 3), (3, 3), (4, 3), (5, 3), (6, 3)], size := 7, bytes := 56, zero := [.int .i64 0, .int .i64 0, .int .i64 0, .int .i64 0, .int .i64 0, .int .i64 0, .int .i64 0], flat := false }
def Tryz.ti59 : TI := { k := .struct [(0, 3), (1, 3), (2, 3), (3, 3), (4, 3), (5, 3), (6, 3)], size := 7, bytes := 56, zero := [.int .i64 0, .int .i64 0, .int .i64 0, .int .i64 0, .int .i64 0, .int .i64 0, .int .i64 0], flat := false }
def Tryz.ti61 : TI := { k := .func, size := 1, bytes := 8, zero := [.lit (.nilFunc)], flat := false }
def Tryz.ti62 : TI := { k := .func, size := 1, bytes := 8, zero := [.lit (.nilFunc)], flat := false }
def Tryz.ti64 : TI := { k := .func, size := 1, bytes := 8, zero := [.lit (.nilFunc)], flat := false }
def Tryz.ti65 : TI := { k := .func, size := 1, bytes := 8, zero := [.lit (.nilFunc)], flat := false }
def Tryz.ti67 : TI := { k := .func, size := 1, bytes := 8, zero := [.lit (.nilFunc)], flat := false }
def Tryz.ti68 : TI := { k := .func, size := 1, bytes := 8, zero := [.lit (.nilFunc)], flat := false }
def Tryz.ti69 : TI := { k := .struct [(0, 32), (2, 32), (4, 3), (5, 21)], size := 6, bytes := 48, zero := [.int .i64 0, .int .i64 0, .int .i64 0, .int .i64 0, .int .i64 0, .int .i32 0], flat := false }
def Tryz.ti70 : TI := { k := .struct [(0, 32), (2, 32), (4, 3), (5, 21)], size := 6, bytes := 48, zero := [.int .i64 0, .int .i64 0, .int .i64 0, .int .i64 0, .int .i64 0, .int .i32 0], flat := true }
def Tryz.ti72 : TI := { k := .func, size := 1, bytes := 8, zero := [.lit (.nilFunc)], flat := false }
def Tryz.ti73 : TI := { k := .slice 55, size := 1, bytes := 24, zero := [.lit (.slice none 0 0)], flat := false }
def Tryz.ti74 : TI := { k := .func, size := 1, bytes := 8, zero := [.lit (.nilFunc)], flat := false }
def Tryz.ti76 : TI := { k := .func, size := 1, bytes := 8, zero := [.lit (.nilFunc)], flat := false }
def Tryz.ti77 : TI := { k := .func, size := 1, bytes := 8, zero := [.lit (.nilFunc)], flat := false }
def Tryz.ti78 : TI := { k := .slice 24, size := 1, bytes := 24, zero := [.lit (.slice none 0 0)], flat := false }
def Tryz.ti79 : TI := { k := .slice 22, size := 1, bytes := 24, zero := [.lit (.slice none 0 0)], flat := false }
def Tryz.ti81 : TI := { k := .func, size := 1, bytes := 8, zero := [.lit (.nilFunc)], flat := false }
def Tryz.ti82 : TI := { k := .func, size := 1, bytes := 8, zero := [.lit (.nilFunc)], flat := false }
def Tryz.ti83 : TI := { k := .slice 89, size := 1, bytes := 24, zero := [.lit (.slice none 0 0)], flat := false }
def Tryz.ti84 : TI := { k := .func, size := 1, bytes := 8, zero := [.lit (.nilFunc)], flat := false }
def Tryz.ti85 : TI := { k := .slice 3, size := 1, bytes := 24, zero := [.lit (.slice none 0 0)], flat := false }
def Tryz.ti87 : TI := { k := .func, size := 1, bytes := 8, zero := [.lit (.nilFunc)], flat := false }
def Tryz.ti88 : TI := { k := .struct [(0, 3), (1, 3), (2, 33)], size := 3, bytes := 24, zero := [.int .i64 0, .int .i64 0, .int .i64 0], flat := false }
def Tryz.ti89 : TI := { k := .struct [(0, 3), (1, 3), (2, 33)], size := 3, bytes := 24, zero := [.int .i64 0, .int .i64 0, .int .i64 0], flat := false }
def Tryz.ti91 : TI := { k := .func, size := 1, bytes := 8, zero := [.lit (.nilFunc)], flat := false }
def Tryz.ti92 : TI := { k := .func, size := 1, bytes := 8, zero := [.lit (.nilFunc)], flat := false }
def Tryz.ti93 : TI := { k := .struct [(0, 32), (2, 32), (4, 32), (6, 3), (7, 33), (8, 4)], size := 9, bytes := 72, zero := [.int .i64 0, .int .i64 0, .int .i64 0, .int .i64 0, .int .i64 0, .int .i64 0, .int .i64 0, .int .i64 0, .bool false], flat := false }
def Tryz.ti94 : TI := { k := .struct [(0, 32), (2, 32), (4, 32), (6, 3), (7, 33), (8, 4)], size := 9, bytes := 72, zero := [.int .i64 0, .int .i64 0, .int .i64 0, .int .i64 0, .int .i64 0, .int .i64 0, .int .i64 0, .int .i64 0, .bool false], flat := false }
def Tryz.ti95 : TI := { k := .func, size := 1, bytes := 8, zero := [.lit (.nilFunc)], flat := false }
def Tryz.ti96 : TI := { k := .slice 30, size := 1, bytes := 24, zero := [.lit (.slice none 0 0)], flat := false }
def Tryz.ti97 : TI := { k := .func, size := 1, bytes := 8, zero := [.lit (.nilFunc)], flat := false }
def Tryz.ti98 : TI := { k := .ptr, size := 1, bytes := 8, zero := [.lit (.pointer none)], flat := false }
def Tryz.ti99 : TI := { k := .struct [(0, 96), (1, 96), (2, 30)], size := 3, bytes := 72, zero := [.lit (.slice none 0 0), .lit (.slice none 0 0), .lit (.slice none 0 0)], flat := false }
def Tryz.ti100 : TI := { k := .struct [(0, 96), (1, 96), (2, 30)], size := 3, bytes := 72, zero := [.lit (.slice none 0 0), .lit (.slice none 0 0), .lit (.slice none 0 0)], flat := false }
def Tryz.ti102 : TI := { k := .func, size := 1, bytes := 8, zero := [.lit (.nilFunc)], flat := false }
def Tryz.ti103 : TI := { k := .func, size := 1, bytes := 8, zero := [.lit (.nilFunc)], flat := false }
def Tryz.ti104 : TI := { k := .func, size := 1, bytes := 8, zero := [.lit (.nilFunc)], flat := false }
def Tryz.ti105 : TI := { k := .func, size := 1, bytes := 8, zero := [.lit (.nilFunc)], flat := false }
def Tryz.ti106 : TI := { k := .func, size := 1, bytes := 8, zero := [.lit (.nilFunc)], flat := false }
def Tryz.ti107 : TI := { k := .func, size := 1, bytes := 8, zero := [.lit (.nilFunc)], flat := false }
def Tryz.ti108 : TI := { k := .func, size := 1, bytes := 8, zero := [.lit (.nilFunc)], flat := false }
def Tryz.ti109 : TI := { k := .func, size := 1, bytes := 8, zero := [.lit (.nilFunc)], flat := false }
def Tryz.ti110 : TI := { k := .func, size := 1, bytes := 8, zero := [.lit (.nilFunc)], flat := false }
def Tryz.ti111 : TI := { k := .func, size := 1, bytes := 8, zero := [.lit (.nilFunc)], flat := false }
def Tryz.ti112 : TI := { k := .func, size := 1, bytes := 8, zero := [.lit (.nilFunc)], flat := false }
def Tryz.ti113 : TI := { k := .func, size := 1, bytes := 8, zero := [.lit (.nilFunc)], flat := false }
def Tryz.ti114 : TI := { k := .func, size := 1, bytes := 8, zero := [.lit (.nilFunc)], flat := false }
def Tryz.ti116 : TI := { k := .func, size := 1, bytes := 8, zero := [.lit (.nilFunc)], flat := false }
def Tryz.ti117 : TI := { k := .func, size := 1, bytes := 8, zero := [.lit (.nilFunc)], flat := false }
def Tryz.ti118 : TI := { k := .func, size := 1, bytes := 8, zero := [.lit (.nilFunc)], flat := false }
def Tryz.ti119 : TI := { k := .func, size := 1, bytes := 8, zero := [.lit (.nilFunc)], flat := false }
def Tryz.ti120 : TI := { k := .func, size := 1, bytes := 8, zero := [.lit (.nilFunc)], flat := false }
def Tryz.ti121 : TI := { k := .func, size := 1, bytes := 8, zero := [.lit (.nilFunc)], flat := false }
def Tryz.ti122 : TI := { k := .func, size := 1, bytes := 8, zero := [.lit (.nilFunc)], flat := false }
def Tryz.ti123 : TI := { k := .func, size := 1, bytes := 8, zero := [.lit (.nilFunc)], flat := false }
def Tryz.ti124 : TI := { k := .func, size := 1, bytes := 8, zero := [.lit (.nilFunc)], flat := false }
def Tryz.ti125 : TI := { k := .func, size := 1, bytes := 8, zero := [.lit (.nilFunc)], flat := false }
def Tryz.ti126 : TI := { k := .struct [(0, 3), (1, 3)], size := 2, bytes := 16, zero := [.int .i64 0, .int .i64 0], flat := false }
def Tryz.ti127 : TI := { k := .struct [(0, 3), (1, 3)], size := 2, bytes := 16, zero := [.int .i64 0, .int .i64 0], flat := false }
def Tryz.ti129 : TI := { k := .func, size := 1, bytes := 8, zero := [.lit (.nilFunc)], flat := false }
def Tryz.ti130 : TI := { k := .func, size := 1, bytes := 8, zero := [.lit (.nilFunc)], flat := false }
def Tryz.ti131 : TI := { k := .func, size := 1, bytes := 8, zero := [.lit (.nilFunc)], flat := false }
def Tryz.ti132 : TI := { k := .func, size := 1, bytes := 8, zero := [.lit (.nilFunc)], flat := false }
def Tryz.ti134 : TI := { k := .func, size := 1, bytes := 8, zero := [.lit (.nilFunc)], flat := false }
def Tryz.ti135 : TI := { k := .func, size := 1, bytes := 8, zero := [.lit (.nilFunc)], flat := false }
def Tryz.ti136 : TI := { k := .slice 33, size := 1, bytes := 24, zero := [.lit (.slice none 0 0)], flat := false }
def Tryz.ti137 : TI := { k := .func, size := 1, bytes := 8, zero := [.lit (.nilFunc)], flat := false }
def Tryz.ti138 : TI := { k := .func, size := 1, bytes := 8, zero := [.lit (.nilFunc)], flat := false }
def Tryz.ti139 : TI := { k := .func, size := 1, bytes := 8, zero := [.lit (.nilFunc)], flat := false }
def Tryz.ti140 : TI := { k := .func, size := 1, bytes := 8, zero := [.lit (.nilFunc)], flat := false }
def Tryz.ti141 : TI := { k := .func, size := 1, bytes := 8, zero := [.lit (.nilFunc)], flat := false }
def Tryz.ti142 : TI := { k := .func, size := 1, bytes := 8, zero := [.lit (.nilFunc)], flat := false }
def Tryz.ti143 : TI := { k := .func, size := 1, bytes := 8, zero := [.lit (.nilFunc)], flat := false }
def Tryz.ti144 : TI := { k := .func, size := 1, bytes := 8, zero := [.lit (.nilFunc)], flat := false }
def Tryz.ti145 : TI := { k := .func, size := 1, bytes := 8, zero := [.lit (.nilFunc)], flat := false }
def Tryz.ti146 : TI := { k := .func, size := 1, bytes := 8, zero := [.lit (.nilFunc)], flat := false }
def Tryz.ti147 : TI := { k := .func, size := 1, bytes := 8, zero := [.lit (.nilFunc)], flat := false }
def Tryz.ti148 : TI := { k := .func, size := 1, bytes := 8, zero := [.lit (.nilFunc)], flat := false }
def Tryz.ti149 : TI := { k := .func, size := 1, bytes := 8, zero := [.lit (.nilFunc)], flat := false }
def Tryz.ti150 : TI := { k := .func, size := 1, bytes := 8, zero := [.lit (.nilFunc)], flat := false }
def Tryz.ti151 : TI := { k := .func, size := 1, bytes := 8, zero := [.lit (.nilFunc)], flat := false }
def Tryz.ti152 : TI := { k := .func, size := 1, bytes := 8, zero := [.lit (.nilFunc)], flat := false }
def Tryz.ti153 : TI := { k := .func, size := 1, bytes := 8, zero := [.lit (.nilFunc)], flat := false }
def Tryz.ti154 : TI := { k := .map 32 3, size := 1, bytes := 8, zero := [.lit (.map none)], flat := false }
def Tryz.ti155 : TI := { k := .struct [(0, 29), (1, 154), (2, 154)], size := 3, bytes := 40, zero := [.lit (.slice none 0 0), .lit (.map none), .lit (.map none)], flat := false }
def Tryz.ti156 : TI := { k := .struct [(0, 29), (1, 154), (2, 154)], size := 3, bytes := 40, zero := [.lit (.slice none 0 0), .lit (.map none), .lit (.map none)], flat := false }
def Tryz.ti158 : TI := { k := .func, size := 1, bytes := 8, zero := [.lit (.nilFunc)], flat := false }
def Tryz.ti159 : TI := { k := .func, size := 1, bytes := 8, zero := [.lit (.nilFunc)], flat := false }
def Tryz.ti161 : TI := { k := .func, size := 1, bytes := 8, zero := [.lit (.nilFunc)], flat := false }
def Tryz.ti162 : TI := { k := .func, size := 1, bytes := 8, zero := [.lit (.nilFunc)], flat := false }
def Tryz.ti163 : TI := { k := .func, size := 1, bytes := 8, zero := [.lit (.nilFunc)], flat := false }
def Tryz.ti164 : TI := { k := .slice 21, size := 1, bytes := 24, zero := [.lit (.slice none 0 0)], flat := false }
def Tryz.ti166 : TI := { k := .func, size := 1, bytes := 8, zero := [.lit (.nilFunc)], flat := false }
def Tryz.ti167 : TI := { k := .func, size := 1, bytes := 8, zero := [.lit (.nilFunc)], flat := false }
def Tryz.ti168 : TI := { k := .func, size := 1, bytes := 8, zero := [.lit (.nilFunc)], flat := false }
def Tryz.ti169 : TI := { k := .func, size := 1, bytes := 8, zero := [.lit (.nilFunc)], flat := false }
def Tryz.ti170 : TI := { k := .func, size := 1, bytes := 8, zero := [.lit (.nilFunc)], flat := false }
def Tryz.ti171 : TI := { k := .func, size := 1, bytes := 8, zero := [.lit (.nilFunc)], flat := false }
def Tryz.ti173 : TI := { k := .func, size := 1, bytes := 8, zero := [.lit (.nilFunc)], flat := false }
def Tryz.ti174 : TI := { k := .func, size := 1, bytes := 8, zero := [.lit (.nilFunc)], flat := false }
def Tryz.ti175 : TI := { k := .func, size := 1, bytes := 8, zero := [.lit (.nilFunc)], flat := false }
def Tryz.ti176 : TI := { k := .slice 222, size := 1, bytes := 24, zero := [.lit (.slice none 0 0)], flat := false }
def Tryz.ti177 : TI := { k := .func, size := 1, bytes := 8, zero := [.lit (.nilFunc)], flat := false }
def Tryz.ti179 : TI := { k := .func, size := 1, bytes := 8, zero := [.lit (.nilFunc)], flat := false }
def Tryz.ti180 : TI := { k := .func, size := 1, bytes := 8, zero := [.lit (.nilFunc)], flat := false }
def Tryz.ti181 : TI := { k := .func, size := 1, bytes := 8, zero := [.lit (.nilFunc)], flat := false }
def Tryz.ti182 : TI := { k := .func, size := 1, bytes := 8, zero := [.lit (.nilFunc)], flat := false }
def Tryz.ti183 : TI := { k := .func, size := 1, bytes := 8, zero := [.lit (.nilFunc)], flat := false }
def Tryz.ti184 : TI := { k := .func, size := 1, bytes := 8, zero := [.lit (.nilFunc)], flat := false }
def Tryz.ti185 : TI := { k := .func, size := 1, bytes := 8, zero := [.lit (.nilFunc)], flat := false }
def Tryz.ti186 : TI := { k := .func, size := 1, bytes := 8, zero := [.lit (.nilFunc)], flat := false }
def Tryz.ti188 : TI := { k := .func, size := 1, bytes := 8, zero := [.lit (.nilFunc)], flat := false }
def Tryz.ti189 : TI := { k := .func, size := 1, bytes := 8, zero := [.lit (.nilFunc)], flat := false }
def Tryz.ti190 : TI := { k := .func, size := 1, bytes := 8, zero := [.lit (.nilFunc)], flat := false }
def Tryz.ti191 : TI := { k := .func, size := 1, bytes := 8, zero := [.lit (.nilFunc)], flat := false }
def Tryz.ti192 : TI := { k := .func, size := 1, bytes := 8, zero := [.lit (.nilFunc)], flat := false }
def Tryz.ti193 : TI := { k := .func, size := 1, bytes := 8, zero := [.lit (.nilFunc)], flat := false }
def Tryz.ti194 : TI := { k := .func, size := 1, bytes := 8, zero := [.lit (.nilFunc)], flat := false }
def Tryz.ti195 : TI := { k := .func, size := 1, bytes := 8, zero := [.lit (.nilFunc)], flat := false }
def Tryz.ti196 : TI := { k := .func, size := 1, bytes := 8, zero := [.lit (.nilFunc)], flat := false }
def Tryz.ti197 : TI := { k := .func, size := 1, bytes := 8, zero := [.lit (.nilFunc)], flat := false }
def Tryz.ti199 : TI := { k := .func, size := 1, bytes := 8, zero := [.lit (.nilFunc)], flat := false }
def Tryz.ti200 : TI := { k := .func, size := 1, bytes := 8, zero := [.lit (.nilFunc)], flat := false }
def Tryz.ti201 : TI := { k := .func, size := 1, bytes := 8, zero := [.lit (.nilFunc)], flat := false }
def Tryz.ti202 : TI := { k := .func, size := 1, bytes := 8, zero := [.lit (.nilFunc)], flat := false }
def Tryz.ti203 : TI := { k := .func, size := 1, bytes := 8, zero := [.lit (.nilFunc)], flat := false }
def Tryz.ti204 : TI := { k := .func, size := 1, bytes := 8, zero := [.lit (.nilFunc)], flat := false }
def Tryz.ti205 : TI := { k := .func, size := 1, bytes := 8, zero := [.lit (.nilFunc)], flat := false }
def Tryz.ti206 : TI := { k := .func, size := 1, bytes := 8, zero := [.lit (.nilFunc)], flat := false }
def Tryz.ti207 : TI := { k := .func, size := 1, bytes := 8, zero := [.lit (.nilFunc)], flat := false }
def Tryz.ti208 : TI := { k := .ptr, size := 1, bytes := 8, zero := [.lit (.pointer none)], flat := false }
def Tryz.ti209 : TI := { k := .struct [(0, 208)], size := 1, bytes := 8, zero := [.lit (.pointer none)], flat := false }
def Tryz.ti210 : TI := { k := .struct [(0, 208)], size := 1, bytes := 8, zero := [.lit (.pointer none)], flat := false }
def Tryz.ti211 : TI := { k := .func, size := 1, bytes := 8, zero := [.lit (.nilFunc)], flat := false }
def Tryz.ti212 : TI := { k := .func, size := 1, bytes := 8, zero := [.lit (.nilFunc)], flat := false }
def Tryz.ti213 : TI := { k := .func, size := 1, bytes := 8, zero := [.lit (.nilFunc)], flat := false }
def Tryz.ti214 : TI := { k := .func, size := 1, bytes := 8, zero := [.lit (.nilFunc)], flat := false }
def Tryz.ti215 : TI := { k := .map 3 3, size := 1, bytes := 8, zero := [.lit (.map none)], flat := false }
def Tryz.ti216 : TI := { k := .func, size := 1, bytes := 8, zero := [.lit (.nilFunc)], flat := false }
def Tryz.ti217 : TI := { k := .func, size := 1, bytes := 8, zero := [.lit (.nilFunc)], flat := false }
def Tryz.ti219 : TI := { k := .int .i64, size := 1, bytes := 8, zero := [.int .i64 0], flat := true }
def Tryz.ti220 : TI := { k := .func, size := 1, bytes := 8, zero := [.lit (.nilFunc)], flat := false }
def Tryz.ti221 : TI := { k := .struct [(0, 3), (1, 219)], size := 2, bytes := 16, zero := [.int .i64 0, .int .i64 0], flat := false }
def Tryz.ti222 : TI := { k := .struct [(0, 3), (1, 219)], size := 2, bytes := 16, zero := [.int .i64 0, .int .i64 0], flat := false }
def Tryz.ti223 : TI := { k := .func, size := 1, bytes := 8, zero := [.lit (.nilFunc)], flat := false }
def Tryz.ti224 : TI := { k := .func, size := 1, bytes := 8, zero := [.lit (.nilFunc)], flat := false }
def Tryz.ti225 : TI := { k := .func, size := 1, bytes := 8, zero := [.lit (.nilFunc)], flat := false }
def Tryz.ti226 : TI := { k := .func, size := 1, bytes := 8, zero := [.lit (.nilFunc)], flat := false }
def Tryz.ti227 : TI := { k := .func, size := 1, bytes := 8, zero := [.lit (.nilFunc)], flat := false }
def Tryz.ti228 : TI := { k := .func, size := 1, bytes := 8, zero := [.lit (.nilFunc)], flat := false }
def Tryz.ti229 : TI := { k := .func, size := 1, bytes := 8, zero := [.lit (.nilFunc)], flat := false }
def Tryz.ti230 : TI := { k := .func, size := 1, bytes := 8, zero := [.lit (.nilFunc)], flat := false }
def Tryz.ti231 : TI := { k := .func, size := 1, bytes := 8, zero := [.lit (.nilFunc)], flat := false }
def Tryz.ti232 : TI := { k := .func, size := 1, bytes := 8, zero := [.lit (.nilFunc)], flat := false }
def Tryz.ti233 : TI := { k := .int .u64, size := 1, bytes := 8, zero := [.int .u64 0], flat := true }
def Tryz.ti235 : TI := { k := .func, size := 1, bytes := 8, zero := [.lit (.nilFunc)], flat := false }
def Tryz.ti236 : TI := { k := .func, size := 1, bytes := 8, zero := [.lit (.nilFunc)], flat := false }
def Tryz.ti237 : TI := { k := .func, size := 1, bytes := 8, zero := [.lit (.nilFunc)], flat := false }
def Tryz.ti238 : TI := { k := .func, size := 1, bytes := 8, zero := [.lit (.nilFunc)], flat := false }
def Tryz.ti239 : TI := { k := .func, size := 1, bytes := 8, zero := [.lit (.nilFunc)], flat := false }
def Tryz.ti240 : TI := { k := .func, size := 1, bytes := 8, zero := [.lit (.nilFunc)], flat := false }
def Tryz.ti241 : TI := { k := .func, size := 1, bytes := 8, zero := [.lit (.nilFunc)], flat := false }
def Tryz.ti242 : TI := { k := .func, size := 1, bytes := 8, zero := [.lit (.nilFunc)], flat := false }
def Tryz.ti243 : TI := { k := .func, size := 1, bytes := 8, zero := [.lit (.nilFunc)], flat := false }
def Tryz.ti244 : TI := { k := .func, size := 1, bytes := 8, zero := [.lit (.nilFunc)], flat := false }
def Tryz.ti245 : TI := { k := .func, size := 1, bytes := 8, zero := [.lit (.nilFunc)], flat := false }
def Tryz.ti246 : TI := { k := .func, size := 1, bytes := 8, zero := [.lit (.nilFunc)], flat := false }
def Tryz.ti247 : TI := { k := .func, size := 1, bytes := 8, zero := [.lit (.nilFunc)], flat := false }
def Tryz.ti249 : TI := { k := .func, size := 1, bytes := 8, zero := [.lit (.nilFunc)], flat := false }
def Tryz.ti250 : TI := { k := .func, size := 1, bytes := 8, zero := [.lit (.nilFunc)], flat := false }
def Tryz.ti251 : TI := { k := .func, size := 1, bytes := 8, zero := [.lit (.nilFunc)], flat := false }
def Tryz.ti252 : TI := { k := .func, size := 1, bytes := 8, zero := [.lit (.nilFunc)], flat := false }
def Tryz.ti253 : TI := { k := .func, size := 1, bytes := 8, zero := [.lit (.nilFunc)], flat := false }
def Tryz.ti254 : TI := { k := .func, size := 1, bytes := 8, zero := [.lit (.nilFunc)], flat := false }
def Tryz.ti255 : TI := { k := .func, size := 1, bytes := 8, zero := [.lit (.nilFunc)], flat := false }
def Tryz.ti256 : TI := { k := .slice 259, size := 1, bytes := 24, zero := [.lit (.slice none 0 0)], flat := false }
def Tryz.ti257 : TI := { k := .func, size := 1, bytes := 8, zero := [.lit (.nilFunc)], flat := false }
def Tryz.ti258 : TI := { k := .struct [(0, 70), (6, 3)], size := 7, bytes := 56, zero := [.int .i64 0, .int .i64 0, .int .i64 0, .int .i64 0, .int .i64 0, .int .i32 0, .int .i64 0], flat := false }
def Tryz.ti259 : TI := { k := .struct [(0, 70), (6, 3)], size := 7, bytes := 56, zero := [.int .i64 0, .int .i64 0, .int .i64 0, .int .i64 0, .int .i64 0, .int .i32 0, .int .i64 0], flat := false }
def Tryz.ti260 : TI := { k := .func, size := 1, bytes := 8, zero := [.lit (.nilFunc)], flat := false }
def Tryz.ti261 : TI := { k := .slice 50, size := 1, bytes := 24, zero := [.lit (.slice none 0 0)], flat := false }
def Tryz.ti262 : TI := { k := .func, size := 1, bytes := 8, zero := [.lit (.nilFunc)], flat := false }
def Tryz.ti263 : TI := { k := .func, size := 1, bytes := 8, zero := [.lit (.nilFunc)], flat := false }
def Tryz.ti264 : TI := { k := .slice 36, size := 1, bytes := 24, zero := [.lit (.slice none 0 0)], flat := false }
def Tryz.ti265 : TI := { k := .func, size := 1, bytes := 8, zero := [.lit (.nilFunc)], flat := false }
def Tryz.ti266 : TI := { k := .int .i64, size := 1, bytes := 8, zero := [.int .i64 0], flat := true }
def Tryz.ti268 : TI := { k := .func, size := 1, bytes := 8, zero := [.lit (.nilFunc)], flat := false }
def Tryz.ti269 : TI := { k := .func, size := 1, bytes := 8, zero := [.lit (.nilFunc)], flat := false }
def Tryz.ti270 : TI := { k := .func, size := 1, bytes := 8, zero := [.lit (.nilFunc)], flat := false }
def Tryz.ti271 : TI := { k := .func, size := 1, bytes := 8, zero := [.lit (.nilFunc)], flat := false }
def Tryz.ti272 : TI := { k := .func, size := 1, bytes := 8, zero := [.lit (.nilFunc)], flat := false }
def Tryz.ti273 : TI := { k := .int .u32, size := 1, bytes := 4, zero := [.int .u32 0], flat := true }
def Tryz.ti274 : TI := { k := .func, size := 1, bytes := 8, zero := [.lit (.nilFunc)], flat := false }
def Tryz.ti275 : TI := { k := .int .u64, size := 1, bytes := 8, zero := [.int .u64 0], flat := true }
def Tryz.ti276 : TI := { k := .func, size := 1, bytes := 8, zero := [.lit (.nilFunc)], flat := false }
def Tryz.ti277 : TI := { k := .func, size := 1, bytes := 8, zero := [.lit (.nilFunc)], flat := false }
def Tryz.ti278 : TI := { k := .struct [(0, 132)], size := 1, bytes := 8, zero := [.lit (.nilFunc)], flat := false }
def Tryz.ti279 : TI := { k := .struct [(0, 132)], size := 1, bytes := 8, zero := [.lit (.nilFunc)], flat := false }
def Tryz.ti280 : TI := { k := .func, size := 1, bytes := 8, zero := [.lit (.nilFunc)], flat := false }
def Tryz.ti281 : TI := { k := .func, size := 1, bytes := 8, zero := [.lit (.nilFunc)], flat := false }
def Tryz.ti282 : TI := { k := .slice 287, size := 1, bytes := 24, zero := [.lit (.slice none 0 0)], flat := false }
def Tryz.ti283 : TI := { k := .struct [(0, 145), (1, 282)], size := 2, bytes := 32, zero := [.lit (.nilFunc), .lit (.slice none 0 0)], flat := false }
def Tryz.ti284 : TI := { k := .struct [(0, 145), (1, 282)], size := 2, bytes := 32, zero := [.lit (.nilFunc), .lit (.slice none 0 0)], flat := false }
def Tryz.ti285 : TI := { k := .func, size := 1, bytes := 8, zero := [.lit (.nilFunc)], flat := false }
def Tryz.ti286 : TI := { k := .struct [(0, 32), (2, 29)], size := 3, bytes := 40, zero := [.int .i64 0, .int .i64 0, .lit (.slice none 0 0)], flat := false }
def Tryz.ti287 : TI := { k := .struct [(0, 32), (2, 29)], size := 3, bytes := 40, zero := [.int .i64 0, .int .i64 0, .lit (.slice none 0 0)], flat := false }
def Tryz.ti288 : TI := { k := .func, size := 1, bytes := 8, zero := [.lit (.nilFunc)], flat := false }
def Tryz.ti289 : TI := { k := .func, size := 1, bytes := 8, zero := [.lit (.nilFunc)], flat := false }
def Tryz.ti290 : TI := { k := .func, size := 1, bytes := 8, zero := [.lit (.nilFunc)], flat := false }
def Tryz.ti291 : TI := { k := .func, size := 1, bytes := 8, zero := [.lit (.nilFunc)], flat := false }
def Tryz.ti292 : TI := { k := .int .u64, size := 1, bytes := 8, zero := [.int .u64 0], flat := true }
def Tryz.ti293 : TI := { k := .func, size := 1, bytes := 8, zero := [.lit (.nilFunc)], flat := false }
def Tryz.ti294 : TI := { k := .func, size := 1, bytes := 8, zero := [.lit (.nilFunc)], flat := false }
def Tryz.ti295 : TI := { k := .func, size := 1, bytes := 8, zero := [.lit (.nilFunc)], flat := false }
def Tryz.ti296 : TI := { k := .ptr, size := 1, bytes := 8, zero := [.lit (.pointer none)], flat := false }
def Tryz.ti297 : TI := { k := .func, size := 1, bytes := 8, zero := [.lit (.nilFunc)], flat := false }
def Tryz.ti298 : TI := { k := .func, size := 1, bytes := 8, zero := [.lit (.nilFunc)], flat := false }
def Tryz.ti299 : TI := { k := .slice 51, size := 1, bytes := 24, zero := [.lit (.slice none 0 0)], flat := false }
def Tryz.ti300 : TI := { k := .func, size := 1, bytes := 8, zero := [.lit (.nilFunc)], flat := false }
def Tryz.ti301 : TI := { k := .func, size := 1, bytes := 8, zero := [.lit (.nilFunc)], flat := false }
def Tryz.ti302 : TI := { k := .func, size := 1, bytes := 8, zero := [.lit (.nilFunc)], flat := false }
def Tryz.ti303 : TI := { k := .func, size := 1, bytes := 8, zero := [.lit (.nilFunc)], flat := false }
def Tryz.ti304 : TI := { k := .func, size := 1, bytes := 8, zero := [.lit (.nilFunc)], flat := false }
def Tryz.ti305 : TI := { k := .func, size := 1, bytes := 8, zero := [.lit (.nilFunc)], flat := false }
def Tryz.ti306 : TI := { k := .func, size := 1, bytes := 8, zero := [.lit (.nilFunc)], flat := false }
def Tryz.ti307 : TI := { k := .func, size := 1, bytes := 8, zero := [.lit (.nilFunc)], flat := false }
def Tryz.ti308 : TI := { k := .func, size := 1, bytes := 8, zero := [.lit (.nilFunc)], flat := false }
def Tryz.ti309 : TI := { k := .func, size := 1, bytes := 8, zero := [.lit (.nilFunc)], flat := false }
def Tryz.ti310 : TI := { k := .func, size := 1, bytes := 8, zero := [.lit (.nilFunc)], flat := false }
def Tryz.ti311 : TI := { k := .func, size := 1, bytes := 8, zero := [.lit (.nilFunc)], flat := false }
def Tryz.ti312 : TI := { k := .func, size := 1, bytes := 8, zero := [.lit (.nilFunc)], flat := false }
def Tryz.ti313 : TI := { k := .func, size := 1, bytes := 8, zero := [.lit (.nilFunc)], flat := false }
def Tryz.ti314 : TI := { k := .func, size := 1, bytes := 8, zero := [.lit (.nilFunc)], flat := false }
def Tryz.ti315 : TI := { k := .func, size := 1, bytes := 8, zero := [.lit (.nilFunc)], flat := false }
def Tryz.ti316 : TI := { k := .func, size := 1, bytes := 8, zero := [.lit (.nilFunc)], flat := false }
def Tryz.ti317 : TI := { k := .ptr, size := 1, bytes := 8, zero := [.lit (.pointer none)], flat := false }
def Tryz.ti319 : TI := { k := .func, size := 1, bytes := 8, zero := [.lit (.nilFunc)], flat := false }
def Tryz.ti320 : TI := { k := .func, size := 1, bytes := 8, zero := [.lit (.nilFunc)], flat := false }
def Tryz.ti321 : TI := { k := .func, size := 1, bytes := 8, zero := [.lit (.nilFunc)], flat := false }
def Tryz.ti322 : TI := { k := .func, size := 1, bytes := 8, zero := [.lit (.nilFunc)], flat := false }
def Tryz.ti323 : TI := { k := .func, size := 1, bytes := 8, zero := [.lit (.nilFunc)], flat := false }
def Tryz.ti324 : TI := { k := .func, size := 1, bytes := 8, zero := [.lit (.nilFunc)], flat := false }
def Tryz.ti325 : TI := { k := .func, size := 1, bytes := 8, zero := [.lit (.nilFunc)], flat := false }
def Tryz.ti326 : TI := { k := .func, size := 1, bytes := 8, zero := [.lit (.nilFunc)], flat := false }
def Tryz.ti327 : TI := { k := .func, size := 1, bytes := 8, zero := [.lit (.nilFunc)], flat := false }
def Tryz.ti328 : TI := { k := .struct [(0, 17), (1, 17), (2, 17), (3, 9)], size := 4, bytes := 40, zero := [.lit (.pointer none), .lit (.pointer none), .lit (.pointer none), .str .empty], flat := false }
def Tryz.ti329 : TI := { k := .struct [(0, 17), (1, 17), (2, 17), (3, 9)], size := 4, bytes := 40, zero := [.lit (.pointer none), .lit (.pointer none), .lit (.pointer none), .str .empty], flat := false }
def Tryz.ti331 : TI := { k := .struct [(0, 330)], size := 0, bytes := 0, zero := [], flat := false }
def Tryz.ti332 : TI := { k := .struct [(0, 330)], size := 0, bytes := 0, zero := [], flat := false }
def Tryz.ti333 : TI := { k := .int .u8, size := 1, bytes := 1, zero := [.int .u8 0], flat := true }
def Tryz.ti334 : TI := { k := .int .u8, size := 1, bytes := 1, zero := [.int .u8 0], flat := true }
def Tryz.ti335 : TI := { k := .func, size := 1, bytes := 8, zero := [.lit (.nilFunc)], flat := false }
def Tryz.ti336 : TI := { k := .ptr, size := 1, bytes := 8, zero := [.lit (.pointer none)], flat := false }
def Tryz.ti337 : TI := { k := .int .i32, size := 1, bytes := 4, zero := [.int .i32 0], flat := true }
def Tryz.ti338 : TI := { k := .int .i32, size := 1, bytes := 4, zero := [.int .i32 0], flat := true }
def Tryz.ti339 : TI := { k := .struct [(0, 12), (1, 12), (2, 273), (3, 333), (4, 5), (5, 5), (6, 334), (7, 335), (8, 336), (9, 337), (10, 338)], size := 11, bytes := 48, zero := [.int .u64 0, .int .u64 0, .int .u32 0, .int .u8 0, .int .u8 0, .int .u8 0, .int .u8 0, .lit (.nilFunc), .lit (.pointer none), .int .i32 0, .int .i32 0], flat := false }
def Tryz.ti340 : TI := { k := .struct [(0, 12), (1, 12), (2, 273), (3, 333), (4, 5), (5, 5), (6, 334), (7, 335), (8, 336), (9, 337), (10, 338)], size := 11, bytes := 48, zero := [.int .u64 0, .int .u64 0, .int .u32 0, .int .u8 0, .int .u8 0, .int .u8 0, .int .u8 0, .lit (.nilFunc), .lit (.pointer none), .int .i32 0, .int .i32 0], flat := false }
def Tryz.tabT : Tr TI := (.node (.node (.node (.node (.node (.node (.node (.node (.node .nil (some Tryz.ti255) .nil) (some Tryz.ti127) .nil) none (.node (.node .nil (some Tryz.ti319) .nil) (some Tryz.ti191) .nil)) (some Tryz.ti31) (.node (.node (.node .nil (some Tryz.ti287) .nil) (some Tryz.ti159) .nil) (some Tryz.ti95) (.node .nil (some Tryz.ti223) .nil))) (some Tryz.ti15) (.node (.node (.node (.node .nil (some Tryz.ti271) .nil) (some Tryz.ti143) .nil) (some Tryz.ti79) (.node (.node .nil (some Tryz.ti335) .nil) (some Tryz.ti207) .nil)) (some Tryz.ti47) (.node (.node (.node .nil (some Tryz.ti303) .nil) (some Tryz.ti175) .nil) (some Tryz.ti111) (.node .nil (some Tryz.ti239) .nil)))) (some Tryz.ti7) (.node (.node (.node (.node (.node .nil (some Tryz.ti263) .nil) (some Tryz.ti135) .nil) none (.node (.node .nil (some Tryz.ti327) .nil) (some Tryz.ti199) .nil)) (some Tryz.ti39) (.node (.node (.node .nil (some Tryz.ti295) .nil) (some Tryz.ti167) .nil) (some Tryz.ti103) (.node .nil (some Tryz.ti231) .nil))) (some Tryz.ti23) (.node (.node (.node (.node .nil (some Tryz.ti279) .nil) (some Tryz.ti151) .nil) (some Tryz.ti87) (.node .nil (some Tryz.ti215) .nil)) (some Tryz.ti55) (.node (.node (.node .nil (some Tryz.ti311) .nil) (some Tryz.ti183) .nil) (some Tryz.ti119) (.node .nil (some Tryz.ti247) .nil))))) (some Tryz.ti3) (.node (.node (.node (.node (.node (.node .nil (some Tryz.ti259) .nil) (some Tryz.ti131) .nil) (some Tryz.ti67) (.node (.node .nil (some Tryz.ti323) .nil) (some Tryz.ti195) .nil)) (some Tryz.ti35) (.node (.node (.node .nil (some Tryz.ti291) .nil) (some Tryz.ti163) .nil) (some Tryz.ti99) (.node .nil (some Tryz.ti227) .nil))) (some Tryz.ti19) (.node (.node (.node (.node .nil (some Tryz.ti275) .nil) (some Tryz.ti147) .nil) (some Tryz.ti83) (.node (.node .nil (some Tryz.ti339) .nil) (some Tryz.ti211) .nil)) (some Tryz.ti51) (.node (.node (.node .nil (some Tryz.ti307) .nil) (some Tryz.ti179) .nil) none (.node .nil (some Tryz.ti243) .nil)))) (some Tryz.ti11) (.node (.node (.node (.node .nil (some Tryz.ti139) .nil) none (.node (.node .nil (some Tryz.ti331) .nil) (some Tryz.ti203) .nil)) (some Tryz.ti43) (.node (.node (.node .nil (some Tryz.ti299) .nil) (some Tryz.ti171) .nil) (some Tryz.ti107) (.node .nil (some Tryz.ti235) .nil))) (some Tryz.ti27) (.node (.node (.node (.node .nil (some Tryz.ti283) .nil) (some Tryz.ti155) .nil) (some Tryz.ti91) (.node .nil (some Tryz.ti219) .nil)) (some Tryz.ti59) (.node (.node (.node .nil (some Tryz.ti315) .nil) none .nil) (some Tryz.ti123) (.node .nil (some Tryz.ti251) .nil)))))) (some Tryz.ti1) (.node (.node (.node (.node (.node (.node (.node .nil (some Tryz.ti257) .nil) (some Tryz.ti129) .nil) (some Tryz.ti65) (.node (.node .nil (some Tryz.ti321) .nil) (some Tryz.ti193) .nil)) (some Tryz.ti33) (.node (.node (.node .nil (some Tryz.ti289) .nil) (some Tryz.ti161) .nil) (some Tryz.ti97) (.node .nil (some Tryz.ti225) .nil))) (some Tryz.ti17) (.node (.node (.node (.node .nil (some Tryz.ti273) .nil) (some Tryz.ti145) .nil) (some Tryz.ti81) (.node (.node .nil (some Tryz.ti337) .nil) (some Tryz.ti209) .nil)) (some Tryz.ti49) (.node (.node (.node .nil (some Tryz.ti305) .nil) (some Tryz.ti177) .nil) (some Tryz.ti113) (.node .nil (some Tryz.ti241) .nil)))) (some Tryz.ti9) (.node (.node (.node (.node (.node .nil (some Tryz.ti265) .nil) (some Tryz.ti137) .nil) (some Tryz.ti73) (.node (.node .nil (some Tryz.ti329) .nil) (some Tryz.ti201) .nil)) (some Tryz.ti41) (.node (.node (.node .nil (some Tryz.ti297) .nil) (some Tryz.ti169) .nil) (some Tryz.ti105) (.node .nil (some Tryz.ti233) .nil))) (some Tryz.ti25) (.node (.node (.node (.node .nil (some Tryz.ti281) .nil) (some Tryz.ti153) .nil) (some Tryz.ti89) (.node .nil (some Tryz.ti217) .nil)) (some Tryz.ti57) (.node (.node (.node .nil (some Tryz.ti313) .nil) (some Tryz.ti185) .nil) (some Tryz.ti121) (.node .nil (some Tryz.ti249) .nil))))) (some Tryz.ti5) (.node (.node (.node (.node (.node (.node .nil (some Tryz.ti261) .nil) none .nil) (some Tryz.ti69) (.node (.node .nil (some Tryz.ti325) .nil) (some Tryz.ti197) .nil)) none (.node (.node (.node .nil (some Tryz.ti293) .nil) none .nil) none (.node .nil (some Tryz.ti229) .nil))) (some Tryz.ti21) (.node (.node (.node (.node .nil (some Tryz.ti277) .nil) (some Tryz.ti149) .nil) (some Tryz.ti85) (.node .nil (some Tryz.ti213) .nil)) (some Tryz.ti53) (.node (.node (.node .nil (some Tryz.ti309) .nil) (some Tryz.ti181) .nil) (some Tryz.ti117) (.node .nil (some Tryz.ti245) .nil)))) (some Tryz.ti13) (.node (.node (.node (.node (.node .nil (some Tryz.ti269) .nil) (some Tryz.ti141) .nil) (some Tryz.ti77) (.node (.node .nil (some Tryz.ti333) .nil) (some Tryz.ti205) .nil)) (some Tryz.ti45) (.node (.node (.node .nil (some Tryz.ti301) .nil) (some Tryz.ti173) .nil) (some Tryz.ti109) (.node .nil (some Tryz.ti237) .nil))) (some Tryz.ti29) (.node (.node (.node (.node .nil (some Tryz.ti285) .nil) none .nil) (some Tryz.ti93) (.node .nil (some Tryz.ti221) .nil)) (some Tryz.ti61) (.node (.node (.node .nil (some Tryz.ti317) .nil) (some Tryz.ti189) .nil) (some Tryz.ti125) (.node .nil (some Tryz.ti253) .nil))))))) none (.node (.node (.node (.node (.node (.node (.node (.node .nil (some Tryz.ti256) .nil) none .nil) (some Tryz.ti64) (.node (.node .nil (some Tryz.ti320) .nil) (some Tryz.ti192) .nil)) (some Tryz.ti32) (.node (.node (.node .nil (some Tryz.ti288) .nil) none .nil) (some Tryz.ti96) (.node .nil (some Tryz.ti224) .nil))) (some Tryz.ti16) (.node (.node (.node (.node .nil (some Tryz.ti272) .nil) (some Tryz.ti144) .nil) none (.node (.node .nil (some Tryz.ti336) .nil) (some Tryz.ti208) .nil)) (some Tryz.ti48) (.node (.node (.node .nil (some Tryz.ti304) .nil) (some Tryz.ti176) .nil) (some Tryz.ti112) (.node .nil (some Tryz.ti240) .nil)))) (some Tryz.ti8) (.node (.node (.node (.node (.node .nil (some Tryz.ti264) .nil) (some Tryz.ti136) .nil) (some Tryz.ti72) (.node (.node .nil (some Tryz.ti328) .nil) (some Tryz.ti200) .nil)) (some Tryz.ti40) (.node (.node (.node .nil (some Tryz.ti296) .nil) (some Tryz.ti168) .nil) (some Tryz.ti104) (.node .nil (some Tryz.ti232) .nil))) (some Tryz.ti24) (.node (.node (.node (.node .nil (some Tryz.ti280) .nil) (some Tryz.ti152) .nil) (some Tryz.ti88) (.node .nil (some Tryz.ti216) .nil)) (some Tryz.ti56) (.node (.node (.node .nil (some Tryz.ti312) .nil) (some Tryz.ti184) .nil) (some Tryz.ti120) .nil)))) (some Tryz.ti4) (.node (.node (.node (.node (.node (.node .nil (some Tryz.ti260) .nil) (some Tryz.ti132) .nil) (some Tryz.ti68) (.node (.node .nil (some Tryz.ti324) .nil) (some Tryz.ti196) .nil)) (some Tryz.ti36) (.node (.node (.node .nil (some Tryz.ti292) .nil) (some Tryz.ti164) .nil) (some Tryz.ti100) (.node .nil (some Tryz.ti228) .nil))) none (.node (.node (.node (.node .nil (some Tryz.ti276) .nil) (some Tryz.ti148) .nil) (some Tryz.ti84) (.node (.node .nil (some Tryz.ti340) .nil) (some Tryz.ti212) .nil)) (some Tryz.ti52) (.node (.node (.node .nil (some Tryz.ti308) .nil) (some Tryz.ti180) .nil) (some Tryz.ti116) (.node .nil (some Tryz.ti244) .nil)))) (some Tryz.ti12) (.node (.node (.node (.node (.node .nil (some Tryz.ti268) .nil) (some Tryz.ti140) .nil) (some Tryz.ti76) (.node (.node .nil (some Tryz.ti332) .nil) (some Tryz.ti204) .nil)) (some Tryz.ti44) (.node (.node (.node .nil (some Tryz.ti300) .nil) none .nil) (some Tryz.ti108) (.node .nil (some Tryz.ti236) .nil))) (some Tryz.ti28) (.node (.node (.node (.node .nil (some Tryz.ti284) .nil) (some Tryz.ti156) .nil) (some Tryz.ti92) (.node .nil (some Tryz.ti220) .nil)) none (.node (.node (.node .nil (some Tryz.ti316) .nil) (some Tryz.ti188) .nil) (some Tryz.ti124) (.node .nil (some Tryz.ti252) .nil)))))) (some Tryz.ti2) (.node (.node (.node (.node (.node (.node (.node .nil (some Tryz.ti258) .nil) (some Tryz.ti130) .nil) none (.node (.node .nil (some Tryz.ti322) .nil) (some Tryz.ti194) .nil)) (some Tryz.ti34) (.node (.node (.node .nil (some Tryz.ti290) .nil) (some Tryz.ti162) .nil) (some Tryz.ti98) (.node .nil (some Tryz.ti226) .nil))) (some Tryz.ti18) (.node (.node (.node (.node .nil (some Tryz.ti274) .nil) (some Tryz.ti146) .nil) (some Tryz.ti82) (.node (.node .nil (some Tryz.ti338) .nil) (some Tryz.ti210) .nil)) (some Tryz.ti50) (.node (.node (.node .nil (some Tryz.ti306) .nil) none .nil) (some Tryz.ti114) (.node .nil (some Tryz.ti242) .nil)))) (some Tryz.ti10) (.node (.node (.node (.node (.node .nil (some Tryz.ti266) .nil) (some Tryz.ti138) .nil) (some Tryz.ti74) (.node .nil (some Tryz.ti202) .nil)) (some Tryz.ti42) (.node (.node (.node .nil (some Tryz.ti298) .nil) (some Tryz.ti170) .nil) (some Tryz.ti106) .nil)) (some Tryz.ti26) (.node (.node (.node (.node .nil (some Tryz.ti282) .nil) (some Tryz.ti154) .nil) none .nil) (some Tryz.ti58) (.node (.node (.node .nil (some Tryz.ti314) .nil) (some Tryz.ti186) .nil) (some Tryz.ti122) (.node .nil (some Tryz.ti250) .nil))))) (some Tryz.ti6) (.node (.node (.node (.node (.node (.node .nil (some Tryz.ti262) .nil) (some Tryz.ti134) .nil) (some Tryz.ti70) (.node (.node .nil (some Tryz.ti326) .nil) none .nil)) (some Tryz.ti38) (.node (.node (.node .nil (some Tryz.ti294) .nil) (some Tryz.ti166) .nil) (some Tryz.ti102) (.node .nil (some Tryz.ti230) .nil))) (some Tryz.ti22) (.node (.node (.node (.node .nil (some Tryz.ti278) .nil) (some Tryz.ti150) .nil) none (.node .nil (some Tryz.ti214) .nil)) (some Tryz.ti54) (.node (.node (.node .nil (some Tryz.ti310) .nil) (some Tryz.ti182) .nil) (some Tryz.ti118) (.node .nil (some Tryz.ti246) .nil)))) (some Tryz.ti14) (.node (.node (.node (.node (.node .nil (some Tryz.ti270) .nil) (some Tryz.ti142) .nil) (some Tryz.ti78) (.node (.node .nil (some Tryz.ti334) .nil) (some Tryz.ti206) .nil)) (some Tryz.ti46) (.node (.node (.node .nil (some Tryz.ti302) .nil) (some Tryz.ti174) .nil) (some Tryz.ti110) (.node .nil (some Tryz.ti238) .nil))) (some Tryz.ti30) (.node (.node (.node (.node .nil (some Tryz.ti286) .nil) (some Tryz.ti158) .nil) (some Tryz.ti94) (.node .nil (some Tryz.ti222) .nil)) (some Tryz.ti62) (.node (.node .nil (some Tryz.ti190) .nil) (some Tryz.ti126) (.node .nil (some Tryz.ti254) .nil))))))))
noncomputable def Tryz.tab : Tab := Tryz.tabT.get
noncomputable def Tryz.funT : Tr Func := (.node (.node (.node (.node (.node (.node (.node (.node (.node .nil (some Go.Proofs.Tryz.f255) .nil) (some Go.Proofs.Tryz.f127) .nil) (some Go.Proofs.Tryz.f63) (.node .nil (some Go.Proofs.Tryz.f191) .nil)) (some Go.Proofs.Tryz.f31) (.node (.node .nil (some Go.Proofs.Tryz.f159) .nil) (some Go.Proofs.Tryz.f95) (.node .nil (some Go.Proofs.Tryz.f223) .nil))) (some Go.Proofs.Tryz.f15) (.node (.node (.node (.node .nil (some Go.Proofs.Tryz.f271) .nil) (some Go.Proofs.Tryz.f143) .nil) (some Go.Proofs.Tryz.f79) (.node .nil (some Go.Proofs.Tryz.f207) .nil)) (some Go.Proofs.Tryz.f47) (.node (.node .nil (some Go.Proofs.Tryz.f175) .nil) (some Go.Proofs.Tryz.f111) (.node .nil (some Go.Proofs.Tryz.f239) .nil)))) (some Go.Proofs.Tryz.f7) (.node (.node (.node (.node (.node .nil (some Go.Proofs.Tryz.f263) .nil) (some Go.Proofs.Tryz.f135) .nil) (some Go.Proofs.Tryz.f71) (.node .nil (some Go.Proofs.Tryz.f199) .nil)) (some Go.Proofs.Tryz.f39) (.node (.node .nil (some Go.Proofs.Tryz.f167) .nil) (some Go.Proofs.Tryz.f103) (.node .nil (some Go.Proofs.Tryz.f231) .nil))) (some Go.Proofs.Tryz.f23) (.node (.node (.node (.node .nil (some Go.Proofs.Tryz.f279) .nil) (some Go.Proofs.Tryz.f151) .nil) (some Go.Proofs.Tryz.f87) (.node .nil (some Go.Proofs.Tryz.f215) .nil)) (some Go.Proofs.Tryz.f55) (.node (.node .nil (some Go.Proofs.Tryz.f183) .nil) (some Go.Proofs.Tryz.f119) (.node .nil (some Go.Proofs.Tryz.f247) .nil))))) (some Go.Proofs.Tryz.f3) (.node (.node (.node (.node (.node (.node .nil (some Go.Proofs.Tryz.f259) .nil) (some Go.Proofs.Tryz.f131) .nil) (some Go.Proofs.Tryz.f67) (.node .nil (some Go.Proofs.Tryz.f195) .nil)) (some Go.Proofs.Tryz.f35) (.node (.node .nil (some Go.Proofs.Tryz.f163) .nil) (some Go.Proofs.Tryz.f99) (.node .nil (some Go.Proofs.Tryz.f227) .nil))) (some Go.Proofs.Tryz.f19) (.node (.node (.node (.node .nil (some Go.Proofs.Tryz.f275) .nil) (some Go.Proofs.Tryz.f147) .nil) (some Go.Proofs.Tryz.f83) (.node .nil (some Go.Proofs.Tryz.f211) .nil)) (some Go.Proofs.Tryz.f51) (.node (.node .nil (some Go.Proofs.Tryz.f179) .nil) (some Go.Proofs.Tryz.f115) (.node .nil (some Go.Proofs.Tryz.f243) .nil)))) (some Go.Proofs.Tryz.f11) (.node (.node (.node (.node (.node .nil (some Go.Proofs.Tryz.f267) .nil) (some Go.Proofs.Tryz.f139) .nil) (some Go.Proofs.Tryz.f75) (.node .nil (some Go.Proofs.Tryz.f203) .nil)) (some Go.Proofs.Tryz.f43) (.node (.node .nil (some Go.Proofs.Tryz.f171) .nil) (some Go.Proofs.Tryz.f107) (.node .nil (some Go.Proofs.Tryz.f235) .nil))) (some Go.Proofs.Tryz.f27) (.node (.node (.node .nil (some Go.Proofs.Tryz.f155) .nil) (some Go.Proofs.Tryz.f91) (.node .nil (some Go.Proofs.Tryz.f219) .nil)) (some Go.Proofs.Tryz.f59) (.node (.node .nil (some Go.Proofs.Tryz.f187) .nil) (some Go.Proofs.Tryz.f123) (.node .nil (some Go.Proofs.Tryz.f251) .nil)))))) (some Go.Proofs.Tryz.f1) (.node (.node (.node (.node (.node (.node (.node .nil (some Go.Proofs.Tryz.f257) .nil) (some Go.Proofs.Tryz.f129) .nil) (some Go.Proofs.Tryz.f65) (.node .nil (some Go.Proofs.Tryz.f193) .nil)) (some Go.Proofs.Tryz.f33) (.node (.node .nil (some Go.Proofs.Tryz.f161) .nil) (some Go.Proofs.Tryz.f97) (.node .nil (some Go.Proofs.Tryz.f225) .nil))) (some Go.Proofs.Tryz.f17) (.node (.node (.node (.node .nil (some Go.Proofs.Tryz.f273) .nil) (some Go.Proofs.Tryz.f145) .nil) (some Go.Proofs.Tryz.f81) (.node .nil (some Go.Proofs.Tryz.f209) .nil)) (some Go.Proofs.Tryz.f49) (.node (.node .nil (some Go.Proofs.Tryz.f177) .nil) (some Go.Proofs.Tryz.f113) (.node .nil (some Go.Proofs.Tryz.f241) .nil)))) (some Go.Proofs.Tryz.f9) (.node (.node (.node (.node (.node .nil (some Go.Proofs.Tryz.f265) .nil) (some Go.Proofs.Tryz.f137) .nil) (some Go.Proofs.Tryz.f73) (.node .nil (some Go.Proofs.Tryz.f201) .nil)) (some Go.Proofs.Tryz.f41) (.node (.node .nil (some Go.Proofs.Tryz.f169) .nil) (some Go.Proofs.Tryz.f105) (.node .nil (some Go.Proofs.Tryz.f233) .nil))) (some Go.Proofs.Tryz.f25) (.node (.node (.node .nil (some Go.Proofs.Tryz.f153) .nil) (some Go.Proofs.Tryz.f89) (.node .nil (some Go.Proofs.Tryz.f217) .nil)) (some Go.Proofs.Tryz.f57) (.node (.node .nil (some Go.Proofs.Tryz.f185) .nil) (some Go.Proofs.Tryz.f121) (.node .nil (some Go.Proofs.Tryz.f249) .nil))))) (some Go.Proofs.Tryz.f5) (.node (.node (.node (.node (.node (.node .nil (some Go.Proofs.Tryz.f261) .nil) (some Go.Proofs.Tryz.f133) .nil) (some Go.Proofs.Tryz.f69) (.node .nil (some Go.Proofs.Tryz.f197) .nil)) (some Go.Proofs.Tryz.f37) (.node (.node .nil (some Go.Proofs.Tryz.f165) .nil) (some Go.Proofs.Tryz.f101) (.node .nil (some Go.Proofs.Tryz.f229) .nil))) (some Go.Proofs.Tryz.f21) (.node (.node (.node (.node .nil (some Go.Proofs.Tryz.f277) .nil) (some Go.Proofs.Tryz.f149) .nil) (some Go.Proofs.Tryz.f85) (.node .nil (some Go.Proofs.Tryz.f213) .nil)) (some Go.Proofs.Tryz.f53) (.node (.node .nil (some Go.Proofs.Tryz.f181) .nil) (some Go.Proofs.Tryz.f117) (.node .nil (some Go.Proofs.Tryz.f245) .nil)))) (some Go.Proofs.Tryz.f13) (.node (.node (.node (.node (.node .nil (some Go.Proofs.Tryz.f269) .nil) (some Go.Proofs.Tryz.f141) .nil) (some Go.Proofs.Tryz.f77) (.node .nil (some Go.Proofs.Tryz.f205) .nil)) (some Go.Proofs.Tryz.f45) (.node (.node .nil (some Go.Proofs.Tryz.f173) .nil) (some Go.Proofs.Tryz.f109) (.node .nil (some Go.Proofs.Tryz.f237) .nil))) (some Go.Proofs.Tryz.f29) (.node (.node (.node .nil (some Go.Proofs.Tryz.f157) .nil) (some Go.Proofs.Tryz.f93) (.node .nil (some Go.Proofs.Tryz.f221) .nil)) (some Go.Proofs.Tryz.f61) (.node (.node .nil (some Go.Proofs.Tryz.f189) .nil) (some Go.Proofs.Tryz.f125) (.node .nil (some Go.Proofs.Tryz.f253) .nil))))))) (some Go.Proofs.Tryz.f0) (.node (.node (.node (.node (.node (.node (.node (.node .nil (some Go.Proofs.Tryz.f256) .nil) (some Go.Proofs.Tryz.f128) .nil) (some Go.Proofs.Tryz.f64) (.node .nil (some Go.Proofs.Tryz.f192) .nil)) (some Go.Proofs.Tryz.f32) (.node (.node .nil (some Go.Proofs.Tryz.f160) .nil) (some Go.Proofs.Tryz.f96) (.node .nil (some Go.Proofs.Tryz.f224) .nil))) (some Go.Proofs.Tryz.f16) (.node (.node (.node (.node .nil (some Go.Proofs.Tryz.f272) .nil) (some Go.Proofs.Tryz.f144) .nil) (some Go.Proofs.Tryz.f80) (.node .nil (some Go.Proofs.Tryz.f208) .nil)) (some Go.Proofs.Tryz.f48) (.node (.node .nil (some Go.Proofs.Tryz.f176) .nil) (some Go.Proofs.Tryz.f112) (.node .nil (some Go.Proofs.Tryz.f240) .nil)))) (some Go.Proofs.Tryz.f8) (.node (.node (.node (.node (.node .nil (some Go.Proofs.Tryz.f264) .nil) (some Go.Proofs.Tryz.f136) .nil) (some Go.Proofs.Tryz.f72) (.node .nil (some Go.Proofs.Tryz.f200) .nil)) (some Go.Proofs.Tryz.f40) (.node (.node .nil (some Go.Proofs.Tryz.f168) .nil) (some Go.Proofs.Tryz.f104) (.node .nil (some Go.Proofs.Tryz.f232) .nil))) (some Go.Proofs.Tryz.f24) (.node (.node (.node (.node .nil (some Go.Proofs.Tryz.f280) .nil) (some Go.Proofs.Tryz.f152) .nil) (some Go.Proofs.Tryz.f88) (.node .nil (some Go.Proofs.Tryz.f216) .nil)) (some Go.Proofs.Tryz.f56) (.node (.node .nil (some Go.Proofs.Tryz.f184) .nil) (some Go.Proofs.Tryz.f120) (.node .nil (some Go.Proofs.Tryz.f248) .nil))))) (some Go.Proofs.Tryz.f4) (.node (.node (.node (.node (.node (.node .nil (some Go.Proofs.Tryz.f260) .nil) (some Go.Proofs.Tryz.f132) .nil) (some Go.Proofs.Tryz.f68) (.node .nil (some Go.Proofs.Tryz.f196) .nil)) (some Go.Proofs.Tryz.f36) (.node (.node .nil (some Go.Proofs.Tryz.f164) .nil) (some Go.Proofs.Tryz.f100) (.node .nil (some Go.Proofs.Tryz.f228) .nil))) (some Go.Proofs.Tryz.f20) (.node (.node (.node (.node .nil (some Go.Proofs.Tryz.f276) .nil) (some Go.Proofs.Tryz.f148) .nil) (some Go.Proofs.Tryz.f84) (.node .nil (some Go.Proofs.Tryz.f212) .nil)) (some Go.Proofs.Tryz.f52) (.node (.node .nil (some Go.Proofs.Tryz.f180) .nil) (some Go.Proofs.Tryz.f116) (.node .nil (some Go.Proofs.Tryz.f244) .nil)))) (some Go.Proofs.Tryz.f12) (.node (.node (.node (.node (.node .nil (some Go.Proofs.Tryz.f268) .nil) (some Go.Proofs.Tryz.f140) .nil) (some Go.Proofs.Tryz.f76) (.node .nil (some Go.Proofs.Tryz.f204) .nil)) (some Go.Proofs.Tryz.f44) (.node (.node .nil (some Go.Proofs.Tryz.f172) .nil) (some Go.Proofs.Tryz.f108) (.node .nil (some Go.Proofs.Tryz.f236) .nil))) (some Go.Proofs.Tryz.f28) (.node (.node (.node .nil (some Go.Proofs.Tryz.f156) .nil) (some Go.Proofs.Tryz.f92) (.node .nil (some Go.Proofs.Tryz.f220) .nil)) (some Go.Proofs.Tryz.f60) (.node (.node .nil (some Go.Proofs.Tryz.f188) .nil) (some Go.Proofs.Tryz.f124) (.node .nil (some Go.Proofs.Tryz.f252) .nil)))))) (some Go.Proofs.Tryz.f2) (.node (.node (.node (.node (.node (.node (.node .nil (some Go.Proofs.Tryz.f258) .nil) (some Go.Proofs.Tryz.f130) .nil) (some Go.Proofs.Tryz.f66) (.node .nil (some Go.Proofs.Tryz.f194) .nil)) (some Go.Proofs.Tryz.f34) (.node (.node .nil (some Go.Proofs.Tryz.f162) .nil) (some Go.Proofs.Tryz.f98) (.node .nil (some Go.Proofs.Tryz.f226) .nil))) (some Go.Proofs.Tryz.f18) (.node (.node (.node (.node .nil (some Go.Proofs.Tryz.f274) .nil) (some Go.Proofs.Tryz.f146) .nil) (some Go.Proofs.Tryz.f82) (.node .nil (some Go.Proofs.Tryz.f210) .nil)) (some Go.Proofs.Tryz.f50) (.node (.node .nil (some Go.Proofs.Tryz.f178) .nil) (some Go.Proofs.Tryz.f114) (.node .nil (some Go.Proofs.Tryz.f242) .nil)))) (some Go.Proofs.Tryz.f10) (.node (.node (.node (.node (.node .nil (some Go.Proofs.Tryz.f266) .nil) (some Go.Proofs.Tryz.f138) .nil) (some Go.Proofs.Tryz.f74) (.node .nil (some Go.Proofs.Tryz.f202) .nil)) (some Go.Proofs.Tryz.f42) (.node (.node .nil (some Go.Proofs.Tryz.f170) .nil) (some Go.Proofs.Tryz.f106) (.node .nil (some Go.Proofs.Tryz.f234) .nil))) (some Go.Proofs.Tryz.f26) (.node (.node (.node .nil (some Go.Proofs.Tryz.f154) .nil) (some Go.Proofs.Tryz.f90) (.node .nil (some Go.Proofs.Tryz.f218) .nil)) (some Go.Proofs.Tryz.f58) (.node (.node .nil (some Go.Proofs.Tryz.f186) .nil) (some Go.Proofs.Tryz.f122) (.node .nil (some Go.Proofs.Tryz.f250) .nil))))) (some Go.Proofs.Tryz.f6) (.node (.node (.node (.node (.node (.node .nil (some Go.Proofs.Tryz.f262) .nil) (some Go.Proofs.Tryz.f134) .nil) (some Go.Proofs.Tryz.f70) (.node .nil (some Go.Proofs.Tryz.f198) .nil)) (some Go.Proofs.Tryz.f38) (.node (.node .nil (some Go.Proofs.Tryz.f166) .nil) (some Go.Proofs.Tryz.f102) (.node .nil (some Go.Proofs.Tryz.f230) .nil))) (some Go.Proofs.Tryz.f22) (.node (.node (.node (.node .nil (some Go.Proofs.Tryz.f278) .nil) (some Go.Proofs.Tryz.f150) .nil) (some Go.Proofs.Tryz.f86) (.node .nil (some Go.Proofs.Tryz.f214) .nil)) (some Go.Proofs.Tryz.f54) (.node (.node .nil (some Go.Proofs.Tryz.f182) .nil) (some Go.Proofs.Tryz.f118) (.node .nil (some Go.Proofs.Tryz.f246) .nil)))) (some Go.Proofs.Tryz.f14) (.node (.node (.node (.node (.node .nil (some Go.Proofs.Tryz.f270) .nil) (some Go.Proofs.Tryz.f142) .nil) (some Go.Proofs.Tryz.f78) (.node .nil (some Go.Proofs.Tryz.f206) .nil)) (some Go.Proofs.Tryz.f46) (.node (.node .nil (some Go.Proofs.Tryz.f174) .nil) (some Go.Proofs.Tryz.f110) (.node .nil (some Go.Proofs.Tryz.f238) .nil))) (some Go.Proofs.Tryz.f30) (.node (.node (.node .nil (some Go.Proofs.Tryz.f158) .nil) (some Go.Proofs.Tryz.f94) (.node .nil (some Go.Proofs.Tryz.f222) .nil)) (some Go.Proofs.Tryz.f62) (.node (.node .nil (some Go.Proofs.Tryz.f190) .nil) (some Go.Proofs.Tryz.f126) (.node .nil (some Go.Proofs.Tryz.f254) .nil))))))))
noncomputable def Tryz.funs : Funs := Tryz.funT.get
end Go.VI
