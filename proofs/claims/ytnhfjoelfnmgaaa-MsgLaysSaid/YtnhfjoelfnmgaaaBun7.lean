/- tabellionref18.Get, all. PRINTED BY gen/rgetm.py -/
import Derived.Test.YtnhfjoelfnmgaaaRgm1
import Derived.Test.YtnhfjoelfnmgaaaRgm2
import Derived.Test.YtnhfjoelfnmgaaaRgm3
import Derived.Test.YtnhfjoelfnmgaaaRgm4
import Derived.Test.YtnhfjoelfnmgaaaRgm5
import Derived.Deep.CutBlock
import Derived.Deep.DeepCutAuto
set_option linter.unusedSimpArgs false
set_option linter.unusedVariables false
namespace Go.Proofs.Ytnhfjoelfnmgaaa
open Go Go.RowKit
theorem rmget_c (v : Value) (bs : List Int) (w : World) (hR : Rd w v (u8s bs)) (hb8 : B8 bs) (hl : bs.length ≤ 140737488355000) : Calls Try.prog 10 #[v] w (MGetOut (getM bs) w) := by
  rcases hY : rdByte bs with no | ⟨k, r1⟩
  · exact rmget_bad v bs w hR hb8 hl (fun k r1 h => by rw [hY] at h; cases h)
  · by_cases hin : k < 1 ∨ 5 < k
    · exact rmget_bad v bs w hR hb8 hl (fun k r1 h => by rw [hY] at h; cases h; exact hin)
    have : k = 1 ∨ k = 2 ∨ k = 3 ∨ k = 4 ∨ k = 5 := by omega
    rcases this with h | h | h | h | h
    · exact rmget_1 v bs w hR hb8 hl k r1 hY (Lib.hid h)
    · exact rmget_2 v bs w hR hb8 hl k r1 hY (Lib.hid h)
    · exact rmget_3 v bs w hR hb8 hl k r1 hY (Lib.hid h)
    · exact rmget_4 v bs w hR hb8 hl k r1 hY (Lib.hid h)
    · exact rmget_5 v bs w hR hb8 hl k r1 hY (Lib.hid h)
end Go.Proofs.Ytnhfjoelfnmgaaa
