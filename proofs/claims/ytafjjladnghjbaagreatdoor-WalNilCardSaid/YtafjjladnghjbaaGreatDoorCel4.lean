/- cell: Open. -/
import Derived.Test.YtafjjladnghjbaaGreatDoorCel3
namespace Go.Proofs.YtafjjladnghjbaaGreatDoor
open Go Go.RowKit Go.Maps

def alSet : List UInt8 := [97, 98, 99, 100, 101, 102, 103, 104, 105, 106, 107, 108, 109, 110, 111, 112, 113, 114, 115, 116, 117, 118, 119, 120, 121, 122]
/-- Is a text a log's, a cell's, a vault's name? -/
def named4 (s : ByteArray) : Bool := decide (0 < s.size) && decide (s.size ≤ 4) && s.data.toList.all (alSet.contains ·)
theorem trim4_c (s : ByteArray) (w : World) (hs : s.size ≤ 9223372036854775807) :
    Calls Tryz.prog 31 #[.string s, .string ⟨alSet.toArray⟩] w fun e w' => e = .returned (.string ⟨(Lib.trimS s.data.toList alSet).toArray⟩) ∧ Below w.heap.size w w' :=
  Any.strings_Trim_laid Tryz.lays160 (by kernel_rfl) s ⟨alSet.toArray⟩ w hs (by decide) (ascii_of_all (by decide))
theorem DkS.b8 {w : World} {d n M : Nat} {O F : List Nat} {S : Dk} (h : DkS w d n M O F S) (k : Nm) : B8 ((getG k S.now).getD []) := by
  obtain ⟨⟨bn, bs, wv, cs, h1, h2, -⟩, -⟩ := h
  cases hg : getG k S.now with
  | none => intro x hx; cases hx
  | some bs => exact h2.b8 hg
theorem readS_fil {S : Dk} (name : ByteArray) (k : Nat) (h : S.off = false) : (readS S (cfile name k)).1 = fil name S.now k := by
  unfold readS fil
  rw [if_neg (by rw [h]; simp)]
  cases getG (nmOf (cfile name k)) S.now <;> rfl
theorem named4_parts {s : ByteArray} (h : named4 s = true) : 0 < s.size ∧ s.size ≤ 4 ∧ Lib.trimS s.data.toList alSet = [] := by
  unfold named4 at h
  simp only [Bool.and_eq_true, decide_eq_true_eq] at h
  exact ⟨h.1.1, h.1.2, (trimS_nil s.data.toList alSet).2 h.2⟩
theorem cfile_size (name : ByteArray) (k : Nat) : (cfile name k).size = name.size + 2 := by
  show (name.data ++ #[46, _]).size = name.data.size + 2
  simp
theorem size_ne {s : ByteArray} (h : 0 < s.size) : s.toList.isEmpty = false := by
  rw [Lib.toList_data]
  cases hd : s.data.toList with
  | nil =>
    have h1 : s.data.toList.length = 0 := by rw [hd]; rfl
    rw [Array.length_toList] at h1
    have : s.size = 0 := h1
    omega
  | cons x r => rfl
/-- What has been picked behind i files. -/
def accC (name : ByteArray) (L : FL) : Nat → Nat × Nat × Nat
  | 0 => (0, 0, 0)
  | i + 1 => stepC (accC name L i) (fil name L i)
theorem accC_two (name : ByteArray) (L : FL) : accC name L 2 = pickC name L := rfl
end Go.Proofs.YtafjjladnghjbaaGreatDoor
