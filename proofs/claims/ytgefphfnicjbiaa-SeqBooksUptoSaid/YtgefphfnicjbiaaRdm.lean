/- bin.Reader: Num, Byte, Raw, End; New. -/
import Derived.Test.YtgefphfnicjbiaaBun3
import Derived.Test.YtgefphfnicjbiaaBun2
set_option linter.unusedSimpArgs false
set_option linter.unusedVariables false
namespace Go.Proofs.Ytgefphfnicjbiaa
open Go Go.RowKit

/-- What a reading call brings: X, or the reader's error if it is stuck. -/
def stuck? {α : Type} (e : Int) (X : Except Int α) : Except Int α := if e = 0 then X else .error e
/-- How an outer reading call ends. -/
def Outer {α : Type} (b : Nat) (bs : List Int) (V : α → Value → World → Prop) (z : Value) (X : Except Int (α × List Int)) (w : World) (en : Ending) (w' : World) : Prop :=
  w.grownBy w' (some b) ∧ match X with
  | .error no => en = .returned (.tuple #[z, .int .i64 no]) ∧ Rdr w' b bs no
  | .ok (x, r) => ∃ v, en = .returned (.tuple #[v, .int .i64 0]) ∧ V x v w' ∧ Rdr w' b r 0

theorem grown_new {w w' : World} {r : Option Nat} (h : w.grownBy w' r) {p : Nat} (hp : w.heap.size ≤ p) (j : Nat) (v : Value) : w.grownBy (w'.setCell ⟨p, j, none⟩ v) r :=
  grown_trans h (grown_set w' p j v) (.inr fun i hi => by cases hi; exact hp)
theorem rdr_lt {w : World} {b : Nat} {bs : List Int} {e : Int} (h : Rdr w b bs e) : b < w.heap.size := by obtain ⟨v, hB, _⟩ := h; exact hB.lt

/-- At the door of a reading call: its own three variables, and what it found. -/
structure Door (w W : World) (b : Nat) (a : Option Addr) (n c : Nat) (bs : List Int) : Prop where
  lt : b < w.heap.size
  g : w.grownBy W (some b)
  pr : Blk W w.heap.size #[ptr b] 68
  pe : Blk W (w.heap.size + 1) #[.int .i64 0] 33
  pw : Blk W (w.heap.size + 2) #[.slice a n c] 29
  st : ∃ r e, Rdr W b r e
  rd : Rd w (.slice a n c) (u8s bs)
  off : Off (.slice a n c) (u8s bs) (some b)
  bef : Bef (.slice a n c) b
theorem Door.mk' {w : World} {b : Nat} {a : Option Addr} {n c : Nat} {bs : List Int} {e : Int} (hB : Blk w b #[.slice a n c, .int .i64 e] 97) (hR : Rd w (.slice a n c) (u8s bs)) (hF : Bef (.slice a n c) b) :
    Door w (((w.alloc (.cells #[ptr b] 68)).alloc (.cells #[.int .i64 0] 33)).alloc (.cells #[.slice a n c] 29)) b a n c bs where
  lt := hB.lt
  g := Ext.grownBy (((Ext.alloc _ _).trans (Ext.alloc _ _)).trans (Ext.alloc _ _)) _
  pr := ((Blk.new w _ _).alloc _).alloc _
  pe := by have := Blk.new (w.alloc (.cells #[ptr b] 68)) #[.int .i64 0] 33; simp at this; exact this.alloc _
  pw := by have := Blk.new ((w.alloc (.cells #[ptr b] 68)).alloc (.cells #[.int .i64 0] 33)) #[.slice a n c] 29; simpa [Nat.add_assoc] using this
  st := ⟨bs, e, _, ((hB.alloc _).alloc _).alloc _, hR.ext (((Ext.alloc _ _).trans (Ext.alloc _ _)).trans (Ext.alloc _ _)), hF⟩
  rd := hR
  off := rdr_off hR hB ⟨_, _, _, rfl⟩
  bef := hF
theorem Door.go {w W W' : World} {b : Nat} {a : Option Addr} {n c : Nat} {bs : List Int} (h : Door w W b a n c bs) (hg : W.grownBy W' (some b)) (hs : ∃ r e, Rdr W' b r e) : Door w W' b a n c bs where
  lt := h.lt
  g := grown_trans1 h.g hg
  pr := h.pr.grown hg (by have := h.lt; intro e; cases e; omega)
  pe := h.pe.grown hg (by have := h.lt; intro e; cases e; omega)
  pw := h.pw.grown hg (by have := h.lt; intro e; cases e; omega)
  st := hs
  rd := h.rd
  off := h.off
  bef := h.bef
theorem Door.caught {w W : World} {b : Nat} {a : Option Addr} {n c : Nat} {bs : List Int} (h : Door w W b a n c bs) (no : Int) (F : World) (hF : F = ((W.drew.setCell ⟨b, 0, none⟩ (.slice a n c)).setCell ⟨b, 1, none⟩ (.int .i64 no)).setCell ⟨w.heap.size + 1, 0, none⟩ (.int .i64 no)) :
    w.grownBy F (some b) ∧ Rdr F b bs no ∧ F.cell? ⟨w.heap.size + 1, 0, none⟩ = some (.int .i64 no) := by
  have hlt := h.lt
  have hg : w.grownBy F (some b) := by rw [hF]; exact grown_new (grown_trans1 (grown_trans1 (grown_drew h.g) (grown_set _ _ _ _)) (grown_set _ _ _ _)) (by omega) _ _
  refine ⟨hg, ⟨.slice a n c, ?_, h.rd.grown hg h.off, h.bef⟩, ?_⟩
  · obtain ⟨r, e, v, hB, _⟩ := h.st
    have := (((hB.drew).set 0 (.slice a n c)).set 1 (.int .i64 no)).other ⟨w.heap.size + 1, 0, none⟩ (.int .i64 no) (by simp; omega)
    rw [hF]; simpa using this
  · have := (((h.pe.drew).other ⟨b, 0, none⟩ (.slice a n c) (by simp; omega)).other ⟨b, 1, none⟩ (.int .i64 no) (by simp; omega)).set 0 (.int .i64 no)
    rw [hF]; exact this.cell 0 (by simp)
/-- All went well: the error's variable is laid once more. -/
theorem Door.ok {w W : World} {b : Nat} {a : Option Addr} {n c : Nat} {bs r : List Int} {e : Int} (h : Door w W b a n c bs) (hr : Rdr W b r e) (F : World) (hF : F = (W.setCell ⟨w.heap.size + 1, 0, none⟩ (.int .i64 0)).drew) :
    w.grownBy F (some b) ∧ Rdr F b r e ∧ F.cell? ⟨w.heap.size + 1, 0, none⟩ = some (.int .i64 0) := by
  have hlt := h.lt
  have hs := grown_drew (grown_set W (w.heap.size + 1) 0 (.int .i64 0))
  rw [hF]
  refine ⟨grown_drew (grown_new h.g (by omega) _ _), ?_, ?_⟩
  · obtain ⟨v, hB, hR, hBf⟩ := hr
    refine ⟨v, (hB.other _ _ (by simp; omega)).drew, hR.grown hs (Rd.off hR h.pe fun x hx hm => ?_), hBf⟩
    obtain ⟨y, _, rfl⟩ := List.mem_map.1 hm
    simp at hx
  · exact ((h.pe.set 0 (.int .i64 0)).drew).cell 0 (by simp)

set_option maxHeartbeats 1000000 in
theorem num_door (b : Nat) (a : Option Addr) (n c : Nat) (bs : List Int) (_e no : Int) (w W : World) (tmps : Array Value) (X : Except Int (Int × List Int)) (V : Int → Value → World → Prop) (hX : X = .error no) (hd : Door w W b a n c bs)
    (hz : tmps[2]? = some (.int .u64 0)) (he : tmps[3]? = some (ptr (w.heap.size + 1))) :
    bodyPostD Try.prog Try.f34 (Outer b bs V (.int .u64 0) X w) (.panic [{ v := errv no, recovered := false }]) { tmps := tmps, defers := [{ target := .fn (.func 62) #[ptr w.heap.size, ptr (w.heap.size + 2), ptr (w.heap.size + 1)], args := #[] }] } W := by
  subst hX
  refine leaves_cons (f := 62) (args := #[ptr w.heap.size, ptr (w.heap.size + 2), ptr (w.heap.size + 1)]) (by simp) (by simp [go_sem]) ?_
  have hlt := hd.lt
  obtain ⟨r, e', v', hB', hR'⟩ := hd.st
  refine (catch_Num b _ _ _ a n c no [] W (hd.pr.cell 0 rfl) (hd.pw.cell 0 rfl) (by omega) (hB'.free 0) (hB'.free 1) (hd.pe.free 0) ⟨_, hB'.cell 0 rfl⟩ ⟨_, hB'.cell 1 rfl⟩ ⟨_, hd.pe.cell 0 rfl⟩).mono ?_
  rintro en u w2 ⟨rfl, rfl, hF⟩
  obtain ⟨h1, h2, h3⟩ := hd.caught no w2 hF
  clear hF
  simp [Leaves, settle, results, Try.results34, go_sem, hz, he, h3]
  exact ⟨h1, rfl, h2⟩
set_option maxHeartbeats 1000000 in
theorem num_m (b : Nat) (bs : List Int) (e : Int) (w : World) (hb8 : B8 bs) (h : Rdr w b bs e) :
    Calls Try.prog 34 #[ptr b] w (Outer b bs (fun n v _ => v = .int .u64 n) (.int .u64 0) (stuck? e (rdNum bs)) w) := by
  have hmf : ∀ (fn : Fn) (first cap : Array Value) (w : World), (Instr.makeFunc fn first cap).run Try.prog w = .ok (.func fn first cap) w := fun _ _ _ _ => rfl
  obtain ⟨X, hX⟩ : ∃ X, X = stuck? e (rdNum bs) := ⟨_, rfl⟩
  rw [← hX]
  have hlt := rdr_lt h
  obtain ⟨v, hB, hR, hF⟩ := h
  obtain ⟨a, n, c, rfl⟩ := Rd.shape hR
  have c0 := hB.cell 0 rfl
  have e0 : ∀ o1 o2 : Obj, ((w.alloc o1).alloc o2).cell? ⟨b, 0, none⟩ = some (.slice a n c) := fun o1 o2 => ((Ext.alloc w o1).trans (Ext.alloc _ o2)).cell c0
  have hD := Door.mk' hB hR hF
  have h3 : Rdr (((w.alloc (.cells #[ptr b] 68)).alloc (.cells #[.int .i64 0] 33)).alloc (.cells #[.slice a n c] 29)) b bs e :=
    ⟨_, ((hB.alloc _).alloc _).alloc _, hR.ext (((Ext.alloc _ _).trans (Ext.alloc _ _)).trans (Ext.alloc _ _)), hF⟩
  have HD := Lib.hid hD; have H3 := Lib.hid h3
  clear hD h3 hB hR hF
  go_enter_defers Try.func34, Try.ntmps34
  go_wp2_with fail
  generalize ((w.alloc (.cells #[ptr b] 68)).alloc (.cells #[.int .i64 0] 33)).alloc (.cells #[.slice a n c] 29) = W at *
  refine (start_c b bs e W H3.out).mono ?_
  rintro en w1 ⟨rfl, hen⟩
  by_cases he : e = 0
  · subst he
    simp only [if_true] at hen
    subst hen
    have hc1 := HD.out.pr.cell 0 rfl
    clear c0 e0
    simp only [stuck?, if_true] at hX
    have HX := Lib.hid hX; clear hX
    go_wp2_with fail
    have hX := HX.out; clear HX
    refine (number_c b bs 0 w1 hb8 H3.out).mono ?_
    rintro en w2 ⟨hg2, h2⟩
    rw [← hX] at h2
    cases X with
    | error no =>
      obtain ⟨rfl, r, hr⟩ := h2
      exact num_door b a n c bs 0 no w w2 _ _ _ rfl (HD.out.go hg2 ⟨r, 0, hr⟩) rfl rfl
    | ok y =>
      obtain ⟨x, r⟩ := y
      obtain ⟨rfl, hr⟩ := h2
      have hD2 := HD.out.go hg2 ⟨r, 0, hr⟩
      have f1 := hD2.pe.free 0
      have c1 := hD2.pe.cell 0 rfl
      go_wp2
      refine leaves_cons (f := 62) (args := #[ptr w.heap.size, ptr (w.heap.size + 2), ptr (w.heap.size + 1)]) (by simp) (by simp [go_sem]) ?_
      refine (idle_Num b _ _ _ a n c _ ((hD2.pr.other ⟨w.heap.size + 1, 0, none⟩ (.int .i64 0) (by simp)).cell 0 rfl) ((hD2.pw.other ⟨w.heap.size + 1, 0, none⟩ (.int .i64 0) (by simp)).cell 0 rfl)).mono ?_
      rintro en u w3 ⟨rfl, rfl, hF⟩
      obtain ⟨h1, h2, h3⟩ := hD2.ok hr w3 hF
      clear hF
      simp [Leaves, settle, results, Try.results34, go_sem, h3]
      exact ⟨h1, _, rfl, rfl, h2⟩
  · simp only [if_neg he] at hen
    subst hen
    exact num_door b a n c bs e e w w1 _ _ _ (by rw [hX]; simp [stuck?, he]) HD.out rfl rfl

end Go.Proofs.Ytgefphfnicjbiaa
