/- The laws of package crc, walked. -/
import Derived.Test.YtgoaijpckckdnaaCrcB
namespace Go.Proofs.Ytgoaijpckckdnaa
open Go Go.RowKit Go.Shelf

theorem live_of : csum [49, 50, 51, 52, 53, 54, 55, 56, 57] = 3421780262 := by decide +kernel
theorem live_seal : cseal [1, 2] = [1, 2, 146, 66, 204, 182] := by decide +kernel
theorem live_open1 : copen [1, 2, 146, 66, 204, 182] = ([1, 2], 0) := by decide +kernel
theorem live_open2 : copen [0, 0, 0] = ([], 4) := by decide +kernel
theorem live_open3 : copen [1, 0, 0, 0, 0] = ([], 12) := by decide +kernel
theorem live_step : cstep 1 false = 3988292384 := by decide +kernel



end Go.Proofs.Ytgoaijpckckdnaa
