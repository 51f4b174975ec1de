/- tabellionref01.Reader: Raw, End. -/
import Derived.Test.YtjodgbabfhcilaaBun3
import Derived.Test.YtjodgbabfhcilaaBun2
set_option linter.unusedSimpArgs false
set_option linter.unusedVariables false
namespace Go.Proofs.Ytjodgbabfhcilaa
open Go Go.RowKit

theorem rdDig_err' : ∀ (k : Nat) (f : Bool) (n : Nat) (bs : List Int) (e : Int), rdDig k f n bs = .error e → e ≠ 0
  | 0, _, _, _, _, h => by simp [rdDig] at h
  | k + 1, _, _, [], _, h => by simp [rdDig] at h; omega
  | k + 1, f, n, c :: r, e, h => by
    simp only [rdDig] at h
    split at h
    · cases h; decide
    · exact rdDig_err' k _ _ _ _ h
theorem rdNum_err' {bs : List Int} {e : Int} (h : rdNum bs = .error e) : e ≠ 0 := by
  cases bs with
  | nil => simp [rdNum] at h; omega
  | cons k r =>
    simp only [rdNum] at h
    split at h
    · cases h; decide
    · split at h
      · rename_i heq; cases h; exact rdDig_err' _ _ _ _ _ heq
      · cases h

theorem grown_none {w w' : World} {r : Option Nat} (h : w.grownBy w' none) : w.grownBy w' r := ⟨h.os, h.tape, h.output, h.size, fun k hk _ => h.block k hk (by simp)⟩
end Go.Proofs.Ytjodgbabfhcilaa
