/- What the types of the program say. -/
import Derived.Test.YtlobjaanabepgaaDoorStep
import Derived.Test.YtlobjaanabepgaaDoorProg
namespace Go.Proofs.YtlobjaanabepgaaDoor
open Go Go.AM
set_option maxRecDepth 100000
noncomputable abbrev P : Program := Tryd.prog
theorem hm : P.follows .mixedOrders = true := by kernel_rfl
attribute [go_sem] Tryd.underlying2
attribute [go_sem] Tryd.underlying3
attribute [go_sem] Tryd.underlying4
attribute [go_sem] Tryd.underlying5
attribute [go_sem] Tryd.underlying9
attribute [go_sem] Tryd.underlying22
attribute [go_sem] Tryd.underlying24
attribute [go_sem] Tryd.underlying25
attribute [go_sem] Tryd.underlying27
attribute [go_sem] Tryd.underlying28
attribute [go_sem] Tryd.underlying29
attribute [go_sem] Tryd.underlying37
attribute [go_sem] Tryd.underlying41
attribute [go_sem] Tryd.underlying43
attribute [go_sem] Tryd.underlying50
attribute [go_sem] Tryd.underlying57
attribute [go_sem] Tryd.underlying58
attribute [go_sem] Tryd.underlying59
attribute [go_sem] Tryd.underlying67
attribute [go_sem] Tryd.underlying73
attribute [go_sem] Tryd.underlying75
attribute [go_sem] Tryd.underlying84
attribute [go_sem] Tryd.underlying87
attribute [go_sem] Tryd.underlying90
attribute [go_sem] Tryd.underlying93
attribute [go_sem] Tryd.underlying104
attribute [go_sem] Tryd.underlying105
attribute [go_sem] Tryd.underlying107
attribute [go_sem] Tryd.underlying109
attribute [go_sem] Tryd.underlying110
attribute [go_sem] Tryd.underlying118
attribute [go_sem] Tryd.underlying130
attribute [go_sem] Tryd.underlying132
attribute [go_sem] Tryd.underlying134
attribute [go_sem] Tryd.underlying137
attribute [go_sem] Tryd.underlying149
attribute [go_sem] Tryd.underlying150
attribute [go_sem] Tryd.underlying154
attribute [go_sem] Tryd.underlying155
@[go_sem] theorem ti3 : tinfo P 3 = some ⟨false, 1, 8, [.int .i64 0], .int .i64 0⟩ := by kernel_rfl
@[go_sem] theorem ti4 : tinfo P 4 = some ⟨false, 1, 1, [.bool false], .bool false⟩ := by kernel_rfl
@[go_sem] theorem ti5 : tinfo P 5 = some ⟨false, 1, 1, [.int .u8 0], .int .u8 0⟩ := by kernel_rfl
@[go_sem] theorem ti22 : tinfo P 22 = some ⟨false, 1, 24, [.nils], .nils⟩ := by kernel_rfl
@[go_sem] theorem ti24 : tinfo P 24 = some ⟨false, 1, 24, [.nils], .nils⟩ := by kernel_rfl
@[go_sem] theorem ti25 : tinfo P 25 = some ⟨false, 1, 24, [.nils], .nils⟩ := by kernel_rfl
@[go_sem] theorem ti27 : tinfo P 27 = some ⟨true, 3, 72, [.nils, .nils, .nils], .agg [.nils, .nils, .nils]⟩ := by kernel_rfl
@[go_sem] theorem ti28 : tinfo P 28 = some ⟨false, 1, 2, [.int .u16 0], .int .u16 0⟩ := by kernel_rfl
@[go_sem] theorem ti41 : tinfo P 41 = some ⟨false, 1, 8, [.nilp], .nilp⟩ := by kernel_rfl
@[go_sem] theorem ti43 : tinfo P 43 = some ⟨true, 2, 32, [.nils, .bool false], .agg [.nils, .bool false]⟩ := by kernel_rfl
@[go_sem] theorem ti50 : tinfo P 50 = some ⟨true, 2, 48, [.nils, .nils], .agg [.nils, .nils]⟩ := by kernel_rfl
@[go_sem] theorem ti73 : tinfo P 73 = some ⟨false, 1, 24, [.nils], .nils⟩ := by kernel_rfl
@[go_sem] theorem ti75 : tinfo P 75 = some ⟨true, 3, 72, [.nils, .nils, .nils], .agg [.nils, .nils, .nils]⟩ := by kernel_rfl
@[go_sem] theorem ti84 : tinfo P 84 = some ⟨false, 1, 24, [.nils], .nils⟩ := by kernel_rfl
@[go_sem] theorem ti87 : tinfo P 87 = some ⟨false, 1, 24, [.nils], .nils⟩ := by kernel_rfl
@[go_sem] theorem ti90 : tinfo P 90 = some ⟨false, 1, 1, [.int .i8 0], .int .i8 0⟩ := by kernel_rfl
@[go_sem] theorem ti93 : tinfo P 93 = some ⟨false, 1, 8, [.int .u64 0], .int .u64 0⟩ := by kernel_rfl
@[go_sem] theorem ti105 : tinfo P 105 = some ⟨false, 1, 24, [.nils], .nils⟩ := by kernel_rfl
@[go_sem] theorem ti107 : tinfo P 107 = some ⟨false, 1, 24, [.nils], .nils⟩ := by kernel_rfl
@[go_sem] theorem ti109 : tinfo P 109 = some ⟨true, 2, 32, [.int .i64 0, .nils], .agg [.int .i64 0, .nils]⟩ := by kernel_rfl
@[go_sem] theorem ti118 : tinfo P 118 = some ⟨true, 2, 16, [.int .i64 0, .int .i64 0], .agg [.int .i64 0, .int .i64 0]⟩ := by kernel_rfl
@[go_sem] theorem ti130 : tinfo P 130 = some ⟨false, 1, 24, [.nils], .nils⟩ := by kernel_rfl
@[go_sem] theorem ti132 : tinfo P 132 = some ⟨true, 2, 32, [.nils, .int .i64 0], .agg [.nils, .int .i64 0]⟩ := by kernel_rfl
@[go_sem] theorem ti134 : tinfo P 134 = some ⟨true, 2, 2, [.int .u8 0, .int .u8 0], .agg [.int .u8 0, .int .u8 0]⟩ := by kernel_rfl
@[go_sem] theorem al137 (h : AHeap) : newT P (tinfo P 137) 137 h = some (.ptr h.n 0 0 0, newS 1 ((List.replicate 24 (0 : Int)).map fun a => [AV.int .u8 a]) h) := by kernel_rfl
@[go_sem] theorem al149 (h : AHeap) : newT P (tinfo P 149) 149 h = some (.ptr h.n 0 0 0, newS 1 ((List.replicate 20 (0 : Int)).map fun a => [AV.int .u64 a]) h) := by kernel_rfl
@[go_sem] theorem al150 (h : AHeap) : newT P (tinfo P 150) 150 h = some (.ptr h.n 0 0 0, newS 1 ((List.replicate 65 (0 : Int)).map fun a => [AV.int .u8 a]) h) := by kernel_rfl
@[go_sem] theorem al154 (h : AHeap) : newT P (tinfo P 154) 154 h = some (.ptr h.n 0 0 0, newS 1 ((List.replicate 32 (0 : Int)).map fun a => [AV.int .u8 a]) h) := by kernel_rfl
@[go_sem] theorem al155 (h : AHeap) : newT P (tinfo P 155) 155 h = some (.ptr h.n 0 0 0, newS 1 ((List.replicate 64 (0 : Int)).map fun a => [AV.int .u8 a]) h) := by kernel_rfl
@[go_sem] theorem fo27_0 : fieldOf P 27 0 = some (0, ⟨false, 1, 24, [.nils], .nils⟩) := by kernel_rfl
@[go_sem] theorem fo27_1 : fieldOf P 27 1 = some (1, ⟨false, 1, 24, [.nils], .nils⟩) := by kernel_rfl
@[go_sem] theorem fo27_2 : fieldOf P 27 2 = some (2, ⟨false, 1, 24, [.nils], .nils⟩) := by kernel_rfl
@[go_sem] theorem fo43_0 : fieldOf P 43 0 = some (0, ⟨false, 1, 24, [.nils], .nils⟩) := by kernel_rfl
@[go_sem] theorem fo43_1 : fieldOf P 43 1 = some (1, ⟨false, 1, 1, [.bool false], .bool false⟩) := by kernel_rfl
@[go_sem] theorem fo50_0 : fieldOf P 50 0 = some (0, ⟨false, 1, 24, [.nils], .nils⟩) := by kernel_rfl
@[go_sem] theorem fo50_1 : fieldOf P 50 1 = some (1, ⟨false, 1, 24, [.nils], .nils⟩) := by kernel_rfl
@[go_sem] theorem fo75_0 : fieldOf P 75 0 = some (0, ⟨false, 1, 24, [.nils], .nils⟩) := by kernel_rfl
@[go_sem] theorem fo75_1 : fieldOf P 75 1 = some (1, ⟨false, 1, 24, [.nils], .nils⟩) := by kernel_rfl
@[go_sem] theorem fo75_2 : fieldOf P 75 2 = some (2, ⟨false, 1, 24, [.nils], .nils⟩) := by kernel_rfl
@[go_sem] theorem fo109_0 : fieldOf P 109 0 = some (0, ⟨false, 1, 8, [.int .i64 0], .int .i64 0⟩) := by kernel_rfl
@[go_sem] theorem fo109_1 : fieldOf P 109 1 = some (1, ⟨false, 1, 24, [.nils], .nils⟩) := by kernel_rfl
@[go_sem] theorem fo118_0 : fieldOf P 118 0 = some (0, ⟨false, 1, 8, [.int .i64 0], .int .i64 0⟩) := by kernel_rfl
@[go_sem] theorem fo118_1 : fieldOf P 118 1 = some (1, ⟨false, 1, 8, [.int .i64 0], .int .i64 0⟩) := by kernel_rfl
@[go_sem] theorem fo132_0 : fieldOf P 132 0 = some (0, ⟨false, 1, 24, [.nils], .nils⟩) := by kernel_rfl
@[go_sem] theorem fo132_1 : fieldOf P 132 1 = some (1, ⟨false, 1, 8, [.int .i64 0], .int .i64 0⟩) := by kernel_rfl
@[go_sem] theorem fo134_0 : fieldOf P 134 0 = some (0, ⟨false, 1, 1, [.int .u8 0], .int .u8 0⟩) := by kernel_rfl
@[go_sem] theorem fo134_1 : fieldOf P 134 1 = some (1, ⟨false, 1, 1, [.int .u8 0], .int .u8 0⟩) := by kernel_rfl
@[go_sem] theorem fl118 : flatN P 118 = some [1, 1] := by kernel_rfl
@[go_sem] theorem fl134 : flatN P 134 = some [1, 1] := by kernel_rfl
@[go_sem] theorem bq27_ : bdQ P 27 [] = some (.agg [.nils, .nils, .nils]) := by
  rw [bdQ_of ti27 Tryd.underlying27 rfl [(0, 1), (1, 1), (2, 1)] (by kernel_rfl)]
  rfl
@[go_sem] theorem bq43_0 (a0 : AV) (h0 : a0.isCell = true) : bdQ P 43 [(0, a0)] = some (.agg [a0, .bool false]) := by
  rw [bdQ_of ti43 Tryd.underlying43 rfl [(0, 1), (1, 1)] (by kernel_rfl), fillC (off := 0) rfl (by simp) h0]
  rfl
@[go_sem] theorem bq50_ : bdQ P 50 [] = some (.agg [.nils, .nils]) := by
  rw [bdQ_of ti50 Tryd.underlying50 rfl [(0, 1), (1, 1)] (by kernel_rfl)]
  rfl
@[go_sem] theorem bq50_0_1 (a0 : AV) (h0 : a0.isCell = true) (a1 : AV) (h1 : a1.isCell = true) : bdQ P 50 [(0, a0), (1, a1)] = some (.agg [a0, a1]) := by
  rw [bdQ_of ti50 Tryd.underlying50 rfl [(0, 1), (1, 1)] (by kernel_rfl), fillC (off := 0) rfl (by simp) h0, fillC (off := 1) rfl (by simp) h1]
  rfl
@[go_sem] theorem bq50_1 (a1 : AV) (h1 : a1.isCell = true) : bdQ P 50 [(1, a1)] = some (.agg [.nils, a1]) := by
  rw [bdQ_of ti50 Tryd.underlying50 rfl [(0, 1), (1, 1)] (by kernel_rfl), fillC (off := 1) rfl (by simp) h1]
  rfl
@[go_sem] theorem bq75_ : bdQ P 75 [] = some (.agg [.nils, .nils, .nils]) := by
  rw [bdQ_of ti75 Tryd.underlying75 rfl [(0, 1), (1, 1), (2, 1)] (by kernel_rfl)]
  rfl
@[go_sem] theorem bq75_0 (a0 : AV) (h0 : a0.isCell = true) : bdQ P 75 [(0, a0)] = some (.agg [a0, .nils, .nils]) := by
  rw [bdQ_of ti75 Tryd.underlying75 rfl [(0, 1), (1, 1), (2, 1)] (by kernel_rfl), fillC (off := 0) rfl (by simp) h0]
  rfl
@[go_sem] theorem bq75_1_2 (a1 : AV) (h1 : a1.isCell = true) (a2 : AV) (h2 : a2.isCell = true) : bdQ P 75 [(1, a1), (2, a2)] = some (.agg [.nils, a1, a2]) := by
  rw [bdQ_of ti75 Tryd.underlying75 rfl [(0, 1), (1, 1), (2, 1)] (by kernel_rfl), fillC (off := 1) rfl (by simp) h1, fillC (off := 2) rfl (by simp) h2]
  rfl
@[go_sem] theorem bq75_2 (a2 : AV) (h2 : a2.isCell = true) : bdQ P 75 [(2, a2)] = some (.agg [.nils, .nils, a2]) := by
  rw [bdQ_of ti75 Tryd.underlying75 rfl [(0, 1), (1, 1), (2, 1)] (by kernel_rfl), fillC (off := 2) rfl (by simp) h2]
  rfl
@[go_sem] theorem bq109_ : bdQ P 109 [] = some (.agg [.int .i64 0, .nils]) := by
  rw [bdQ_of ti109 Tryd.underlying109 rfl [(0, 1), (1, 1)] (by kernel_rfl)]
  rfl
@[go_sem] theorem bq109_0 (a0 : AV) (h0 : a0.isCell = true) : bdQ P 109 [(0, a0)] = some (.agg [a0, .nils]) := by
  rw [bdQ_of ti109 Tryd.underlying109 rfl [(0, 1), (1, 1)] (by kernel_rfl), fillC (off := 0) rfl (by simp) h0]
  rfl
@[go_sem] theorem bq118_0_1 (a0 : AV) (h0 : a0.isCell = true) (a1 : AV) (h1 : a1.isCell = true) : bdQ P 118 [(0, a0), (1, a1)] = some (.agg [a0, a1]) := by
  rw [bdQ_of ti118 Tryd.underlying118 rfl [(0, 1), (1, 1)] (by kernel_rfl), fillC (off := 0) rfl (by simp) h0, fillC (off := 1) rfl (by simp) h1]
  rfl
@[go_sem] theorem bq132_0_1 (a0 : AV) (h0 : a0.isCell = true) (a1 : AV) (h1 : a1.isCell = true) : bdQ P 132 [(0, a0), (1, a1)] = some (.agg [a0, a1]) := by
  rw [bdQ_of ti132 Tryd.underlying132 rfl [(0, 1), (1, 1)] (by kernel_rfl), fillC (off := 0) rfl (by simp) h0, fillC (off := 1) rfl (by simp) h1]
  rfl
@[go_sem] theorem bq134_0_1 (a0 : AV) (h0 : a0.isCell = true) (a1 : AV) (h1 : a1.isCell = true) : bdQ P 134 [(0, a0), (1, a1)] = some (.agg [a0, a1]) := by
  rw [bdQ_of ti134 Tryd.underlying134 rfl [(0, 1), (1, 1)] (by kernel_rfl), fillC (off := 0) rfl (by simp) h0, fillC (off := 1) rfl (by simp) h1]
  rfl
end Go.Proofs.YtlobjaanabepgaaDoor
