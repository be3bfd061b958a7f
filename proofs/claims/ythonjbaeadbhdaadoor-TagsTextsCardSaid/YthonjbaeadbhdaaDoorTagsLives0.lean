/- The examples of the chapter, in plain Lean. -/
import Derived.Test.YthonjbaeadbhdaaDoorTagsParseTop
namespace Go.Proofs.YthonjbaeadbhdaaDoor
open Go.RowKit

namespace Tg.Ex
def A : Tree := .mk 1 1 true [] [.mk 2 2 false [10] [], .mk 0 4 false [] []]
def Z : Tree := .mk 0 0 false [] []
abbrev tA : List UInt8 := [97, 49, 40, 99, 50, 61, 48, 97, 32, 117, 52, 61, 41]
def D : Tree := .mk 2 31 false [255] []
def I : Tree := .mk 2 200 false [] []
theorem pA : parseT tA = (A, 0) := by kernel_rfl
theorem encA : encodeAs A 0 = ([97, 5, 130, 1, 10, 4, 0], 0) := by kernel_rfl
theorem opnA : encodeAs A 1 = ([97, 128, 130, 1, 10, 4, 0, 0, 0], 0) := by kernel_rfl
theorem sizA : sizeT A = 7 := by kernel_rfl
theorem cntA : countT A = 3 := by kernel_rfl
theorem txtA : textT A = tA := by kernel_rfl
theorem txlA : (text A).length = 13 := by kernel_rfl
theorem encD : encodeAs D 0 = ([159, 31, 1, 255], 0) := by kernel_rfl
theorem encI : encodeAs I 0 = ([159, 129, 72, 0], 0) := by kernel_rfl
theorem fstA : firstT [97, 129, 5, 130, 1, 10, 4, 0, 7] = (A, 8, 0) := by kernel_rfl
theorem samA : sameT A A = true := by kernel_rfl
def bads : List (List UInt8) := [[97, 5, 130, 1, 10, 4], [0, 0], [130, 128], [159, 128, 1, 0], [159, 30, 0], [4, 0, 7]]
theorem bad_all : ∀ l ∈ bads, (decT l).2 = 4 := by
  intro l h
  simp only [bads, List.mem_cons, List.not_mem_nil, or_false] at h
  rcases h with rfl | rfl | rfl | rfl | rfl | rfl <;> kernel_rfl
theorem toI1 : (toInt [0, 127]).2 = 4 := by kernel_rfl
theorem toI2 : toInt [255, 127] = (-129, 0) := by kernel_rfl
theorem prs1 : (parseT [97, 49, 40, 32, 99, 50, 61, 48, 97, 41]).2 = 4 := by kernel_rfl
theorem prs2 : (parseT [117, 48, 61]).2 = 4 := by kernel_rfl
theorem int0 : intBytes 0 = [0] := by kernel_rfl
theorem int1 : intBytes 127 = [127] := by kernel_rfl
theorem int2 : intBytes 128 = [0, 128] := by kernel_rfl
theorem int3 : intBytes (-129) = [255, 127] := by kernel_rfl
end Tg.Ex
end Go.Proofs.YthonjbaeadbhdaaDoor
