/- Layer 25 (seq): Get. -/
import Derived.Test.YtgefphfnicjbiaaDoorSkh
import Derived.Deep.CutBlock
set_option linter.unusedSimpArgs false
set_option linter.unusedVariables false
namespace Go.Proofs.YtgefphfnicjbiaaDoor
open Go Go.RowKit

def K3 (L : List (List Int)) (x : Except Int (List Cl × List Int)) : Except Int Bk := match x with
  | .error e => .error e
  | .ok (C, r) => if r = [] then .ok ⟨L, C⟩ else .error 5
def K2 (n : Int) (L : List (List Int)) (bs : List Int) : Except Int Bk := match rdMany 8 bs with
  | .error e => .error e
  | .ok (m, r) => K3 L (rdCls n m.toNat [] r)
def K1 (n : Int) (x : Except Int (List (List Int) × List Int)) : Except Int Bk := match x with
  | .error e => .error e
  | .ok (L, r) => K2 n L r
def K4 (n : Int) (k : Nat) (acc : List Cl) (x : Int) (y : Except Int (List (Int × Int) × List Int)) : Except Int (List Cl × List Int) := match y with
  | .error e => .error e
  | .ok (ss, r) => rdCls n k (acc ++ [⟨x, ss⟩]) r
/-- What follows a client's id. -/
def K5 (n : Int) (k : Nat) (acc : List Cl) (x : Int) (bs : List Int) : Except Int (List Cl × List Int) :=
  if upTo (acc.map (·.id)) x then (match rdMany 4 bs with
      | .error e => .error e
      | .ok (m, r) => if 0 < m then K4 n k acc x (rdSls n m.toNat [] r) else .error 3) else .error 3
theorem rdCls_num (n : Int) (k : Nat) (acc : List Cl) (bs : List Int) : rdCls n (k + 1) acc bs = match rdNum bs with
    | .error e => .error e
    | .ok (x, r) => K5 n k acc x r := by
  simp only [rdCls]
  cases rdNum bs with
  | error e => rfl
  | ok p =>
    obtain ⟨x, r⟩ := p
    dsimp only [K5]
    split
    · cases rdMany 4 r with
      | error e => rfl
      | ok p =>
        obtain ⟨m, r⟩ := p
        dsimp only
        split
        · dsimp only [K4]
          cases rdSls n m.toNat [] r <;> rfl
        · rfl
    · rfl
theorem getK_eq (bs : List Int) : getK bs = match rdMany 64 bs with
  | .error e => .error e
  | .ok (n, r) => K1 n (rdLfs n.toNat [] r) := by
  unfold getK
  cases rdMany 64 bs with
  | error e => rfl
  | ok p =>
    obtain ⟨n, r⟩ := p
    dsimp only [K1]
    cases rdLfs n.toNat [] r with
    | error e => rfl
    | ok p =>
      obtain ⟨L, r⟩ := p
      dsimp only [K2]
      cases rdMany 8 r with
      | error e => rfl
      | ok p =>
        obtain ⟨m, r⟩ := p
        dsimp only [K3]
        cases rdCls n m.toNat [] r <;> rfl
theorem elLf : ElT Tryd.prog 22 27 (.slice none 0 0) 24 := ElT.mk' Tryd.underlying22 (by kernel_rfl) rfl
def K6 (n : Int) (k : Nat) (acc : List Cl) (x : Int) (y : Except Int (Int × List Int)) : Except Int (List Cl × List Int) := match y with
  | .error e => .error e
  | .ok (m, r) => if 0 < m then K4 n k acc x (rdSls n m.toNat [] r) else .error 3
/-- What follows a slot's number. -/
def K7 (n : Int) (k : Nat) (acc : List (Int × Int)) (s : Int) (y : Except Int (Int × List Int)) : Except Int (List (Int × Int) × List Int) := match y with
  | .error e => .error e
  | .ok (i, r) => if i < n then rdSls n k (acc ++ [(s, i)]) r else .error 3
def K8 (n : Int) (k : Nat) (acc : List (Int × Int)) (y : Except Int (Int × List Int)) : Except Int (List (Int × Int) × List Int) := match y with
  | .error e => .error e
  | .ok (s, r) => if upTo (acc.map (·.1)) s then K7 n k acc s (rdNum r) else .error 3
theorem rdSls_num (n : Int) (k : Nat) (acc : List (Int × Int)) (bs : List Int) : rdSls n (k + 1) acc bs = K8 n k acc (rdNum bs) := by
  simp only [rdSls]
  cases rdNum bs with
  | error e => rfl
  | ok p =>
    obtain ⟨x, r⟩ := p
    dsimp only [K8]
    split
    · cases rdNum r with
      | error e => rfl
      | ok p => rfl
    · rfl
theorem K5_ok {n : Int} {k : Nat} {acc : List Cl} {x : Int} {bs : List Int} (h : upTo (acc.map (·.id)) x = true) : K5 n k acc x bs = K6 n k acc x (rdMany 4 bs) := by unfold K5 K6; rw [if_pos h]
end Go.Proofs.YtgefphfnicjbiaaDoor
