/- bin.Reader: Raw. -/
import Derived.Test.YtgefphfnicjbiaaRdm
import Derived.Test.YtgefphfnicjbiaaBun2
set_option linter.unusedSimpArgs false
set_option linter.unusedVariables false
namespace Go.Proofs.Ytgefphfnicjbiaa
open Go Go.RowKit

set_option maxHeartbeats 1000000 in
theorem raw_door (b : Nat) (a : Option Addr) (n c : Nat) (bs : List Int) (e no : Int) (w W : World) (tmps : Array Value) (X : Except Int (List Int × List Int)) (V : List Int → Value → World → Prop) (hX : X = .error no) (hd : Door w W b a n c bs)
    (hz : tmps[4]? = some (.slice none 0 0)) (he : tmps[5]? = some (ptr (w.heap.size + 1))) :
    bodyPostD Try.prog Try.f37 (Outer b bs V (.slice none 0 0) X w) (.panic [{ v := errv no, recovered := false }]) { tmps := tmps, defers := [{ target := .fn (.func 66) #[ptr w.heap.size, ptr (w.heap.size + 2), ptr (w.heap.size + 1)], args := #[] }] } W := by
  subst hX
  refine leaves_cons (f := 66) (args := #[ptr w.heap.size, ptr (w.heap.size + 2), ptr (w.heap.size + 1)]) (by simp) (by simp [go_sem]) ?_
  have hlt := hd.lt
  obtain ⟨r, e', v', hB', hR'⟩ := hd.st
  refine (catch_Raw b _ _ _ a n c no [] W (hd.pr.cell 0 rfl) (hd.pw.cell 0 rfl) (by omega) (hB'.free 0) (hB'.free 1) (hd.pe.free 0) ⟨_, hB'.cell 0 rfl⟩ ⟨_, hB'.cell 1 rfl⟩ ⟨_, hd.pe.cell 0 rfl⟩).mono ?_
  rintro en u w2 ⟨rfl, rfl, hF⟩
  obtain ⟨h1, h2, h3⟩ := hd.caught no w2 hF
  clear hF
  simp [Leaves, settle, results, Try.results37, go_sem, hz, he, h3]
  exact ⟨h1, rfl, h2⟩

/-- A slice of bytes in memory that w had not. -/
def NewRd (w : World) (xs : List Int) (v : Value) (w' : World) : Prop := Rd w' v (u8s xs) ∧ (∀ a n c, v = .slice (some a) n c → w.heap.size ≤ a.block) ∧ UnT w' v
theorem NewRd.grown {w w1 w2 : World} {xs : List Int} {v : Value} {b : Nat} (h : NewRd w xs v w1) (hb : b < w.heap.size) (hg : w1.grownBy w2 (some b)) : NewRd w xs v w2 :=
  ⟨h.1.grown hg fun a n c hv _ he => by have := h.2.1 a n c hv; cases he; omega, h.2.1, h.2.2.grown hg fun a n c hv _ he => by have := h.2.1 a n c hv; cases he; omega⟩
theorem NewRd.set {w w1 : World} {xs : List Int} {v : Value} {p : Nat} {ds : Array Value} {T : TypeId} (h : NewRd w xs v w1) (j : Nat) (u : Value) (hb : Blk w1 p ds T) (hd : ∀ x ∈ ds, ∀ y, x ≠ .int .u8 y) : NewRd w xs v (w1.setCell ⟨p, j, none⟩ u) :=
  ⟨h.1.grown (grown_set w1 p j u) (Rd.off h.1 hb fun x hx hm => by obtain ⟨y, _, rfl⟩ := List.mem_map.1 hm; exact hd _ hx y rfl), h.2.1, h.2.2.set p j u⟩
theorem rdNum_ok {bs r : List Int} {x : Int} (h : rdNum bs = .ok (x, r)) : 0 ≤ x ∧ r.length ≤ bs.length := by
  have hd : ∀ (k : Nat) (f : Bool) (n : Nat) (bs r : List Int) (m : Nat), rdDig k f n bs = .ok (m, r) → r.length ≤ bs.length := by
    intro k
    induction k with
    | zero => intro f n bs r m h; simp [rdDig] at h; rw [h.2]; exact Nat.le_refl _
    | succ k ih =>
      intro f n bs r m h
      cases bs with
      | nil => simp [rdDig] at h
      | cons c s =>
        simp only [rdDig] at h
        split at h
        · cases h
        · have := ih _ _ _ _ _ h; simp; omega
  cases bs with
  | nil => simp [rdNum] at h
  | cons k s =>
    simp only [rdNum] at h
    split at h
    · cases h
    · split at h
      · cases h
      · rename_i n r' heq
        cases h
        have := hd _ _ _ _ _ _ heq
        simp; omega

theorem Rd.take {w : World} {a : Option Addr} {n c : Nat} {r : List Int} (h : Rd w (.slice a n c) (u8s r)) {N : Nat} (hN : N ≤ r.length) : Rd w (.slice a N c) (u8s (r.take N)) := by
  obtain ⟨a', c', hv, h1, h2, h3⟩ := h
  cases hv
  rw [u8s_len] at h1
  refine ⟨a, c, by rw [u8s_len, List.length_take, Nat.min_eq_left hN], by rw [u8s_len, List.length_take]; omega, h2, ?_⟩
  rcases h3 with h3 | ⟨b, o, rfl, hc⟩
  · left
    have : r = [] := by simpa [u8s] using h3
    subst this; simp [u8s]
  · refine .inr ⟨b, o, rfl, fun j u hj => hc j u ?_⟩
    simp only [u8s, List.map_take] at hj ⊢
    rw [List.getElem?_take] at hj
    split at hj
    · exact hj
    · cases hj

theorem Rd.drop {w : World} {a : Option Addr} {c : Nat} {r : List Int} {n : Nat} (h : Rd w (.slice a n c) (u8s r)) {N : Nat} (hN : N ≤ r.length) : Rd w (.slice (if c = N then a else a.map (·.add N)) (r.length - N) (c - N)) (u8s (r.drop N)) := by
  obtain ⟨a', c', hv, h1, h2, h3⟩ := h
  cases hv
  rw [u8s_len] at h1
  refine ⟨_, _, by rw [u8s_len, List.length_drop], by rw [u8s_len, List.length_drop]; omega, by omega, ?_⟩
  by_cases hn : r.length ≤ N
  · left; rw [List.drop_eq_nil_of_le hn]; rfl
  · rcases h3 with h3 | ⟨b, o, rfl, hc⟩
    · have : r = [] := by simpa [u8s] using h3
      subst this; simp at hn
    · right
      rw [if_neg (by omega)]
      refine ⟨b, o + N, by simp [Addr.add], fun j u hj => ?_⟩
      have := hc (N + j) u (by simpa [u8s] using hj)
      rw [← Nat.add_assoc] at this
      exact this
theorem Off.drop {a : Option Addr} {c : Nat} {r : List Int} {n : Nat} {b : Option Nat} (h : Off (.slice a n c) (u8s r) b) {N : Nat} (hN : N ≤ r.length) : Off (.slice (if c = N then a else a.map (·.add N)) (r.length - N) (c - N)) (u8s (r.drop N)) b := by
  intro a' n' c' hv hne
  have hr : u8s r ≠ [] := by intro e; apply hne; simp [u8s] at e ⊢; rw [e]; simp
  cases a with
  | none => simp at hv
  | some a0 =>
    have h0 := h a0 n c rfl hr
    simp only [Value.slice.injEq] at hv
    have : a'.block = a0.block := by
      have := hv.1
      split at this
      · cases this; rfl
      · simp at this; rw [← this]; simp only [Addr.add]; split <;> rfl
    rw [this]; exact h0
theorem Bef.drop {a : Option Addr} {n c m q N : Nat} {b : Nat} (h : Bef (.slice a n c) b) : Bef (.slice (if c = N then a else a.map (·.add N)) m q) b := by
  intro a' n' c' hv
  cases a with
  | none => simp at hv
  | some a0 =>
    have h0 := h a0 n c rfl
    simp only [Value.slice.injEq] at hv
    have : a'.block = a0.block := by
      have := hv.1
      split at this
      · cases this; rfl
      · simp at this; rw [← this]; simp only [Addr.add]; split <;> rfl
    omega
theorem newRd_own {w w1 : World} {base : Nat} {v : Value} {xs : List Int} {n : Nat} (h : w1.ownsRow base 5 1 v n (u8s xs)) (hb : w.heap.size ≤ base) : NewRd w xs v w1 := by
  refine ⟨Rd.of_own h, fun a n c hv => ?_, UnT.own h⟩
  rcases h.2 with ⟨hn, _⟩ | ⟨g, cap, cur, hv', hg, _⟩
  · rw [hn] at hv; cases hv
  · rw [hv'] at hv; cases hv; simp; omega

set_option maxHeartbeats 2000000 in
theorem raw_m (b : Nat) (bs : List Int) (e most : Int) (w : World) (hb8 : B8 bs) (hl : bs.length ≤ 140737488355328) (hm : -9223372036854775808 ≤ most ∧ most ≤ 9223372036854775807) (h : Rdr w b bs e) :
    Calls Try.prog 37 #[ptr b, .int .i64 most] w (Outer b bs (NewRd w) (.slice none 0 0) (stuck? e (rdRaw most bs)) w) := by
  have hmf : ∀ (fn : Fn) (first cap : Array Value) (w : World), (Instr.makeFunc fn first cap).run Try.prog w = .ok (.func fn first cap) w := fun _ _ _ _ => rfl
  obtain ⟨X, hX⟩ : ∃ X, X = stuck? e (rdRaw most bs) := ⟨_, rfl⟩
  rw [← hX]
  have hlt := rdr_lt h
  obtain ⟨v, hB, hR, hF⟩ := h
  obtain ⟨a, n, c, rfl⟩ := Rd.shape hR
  have c0 := hB.cell 0 rfl
  have e0 : ∀ o1 o2 : Obj, ((w.alloc o1).alloc o2).cell? ⟨b, 0, none⟩ = some (.slice a n c) := fun o1 o2 => ((Ext.alloc w o1).trans (Ext.alloc _ o2)).cell c0
  have hD := Door.mk' hB hR hF
  have h3 : Rdr (((w.alloc (.cells #[ptr b] 68)).alloc (.cells #[.int .i64 0] 33)).alloc (.cells #[.slice a n c] 29)) b bs e :=
    ⟨_, ((hB.alloc _).alloc _).alloc _, hR.ext (((Ext.alloc _ _).trans (Ext.alloc _ _)).trans (Ext.alloc _ _)), hF⟩
  have HD := Lib.hid hD; have H3 := Lib.hid h3
  clear hD h3 hB hR hF
  go_enter_defers Try.func37, Try.ntmps37
  go_wp2_with fail
  generalize ((w.alloc (.cells #[ptr b] 68)).alloc (.cells #[.int .i64 0] 33)).alloc (.cells #[.slice a n c] 29) = W at *
  refine (start_c b bs e W H3.out).mono ?_
  rintro en w1 ⟨rfl, hen⟩
  by_cases he : e = 0
  · subst he
    simp only [if_true] at hen
    subst hen
    have hc1 := HD.out.pr.cell 0 rfl
    clear c0 e0
    simp only [stuck?, if_true] at hX
    have HX := Lib.hid hX; clear hX
    go_wp2_with fail
    have hX := HX.out; clear HX
    refine (number_c b bs 0 w1 hb8 H3.out).mono ?_
    rintro en w2 ⟨hg2, h2⟩
    obtain ⟨Y, hY⟩ : ∃ Y, Y = rdNum bs := ⟨_, rfl⟩
    rw [← hY] at h2
    unfold rdRaw at hX
    rw [← hY] at hX
    cases Y with
    | error no =>
      obtain ⟨rfl, r, hr⟩ := h2
      exact raw_door b a n c bs 0 no w w2 _ _ _ hX (HD.out.go hg2 ⟨r, 0, hr⟩) rfl rfl
    | ok y =>
      obtain ⟨x, r⟩ := y
      obtain ⟨rfl, hr⟩ := h2
      obtain ⟨hx0, hrl⟩ := rdNum_ok hY.symm
      obtain ⟨N, rfl⟩ := Int.eq_ofNat_of_zero_le hx0
      have hD2 := HD.out.go hg2 ⟨r, 0, hr⟩
      simp only [] at hX
      have HD2 := Lib.hid hD2; have HR := Lib.hid hr
      obtain ⟨v2, hB2, hR2, hF2⟩ := hr
      obtain ⟨a2, c2, rfl, hl2, hc2, hcs2⟩ := Rd.open hR2
      have p0 := hD2.pr.cell 0 rfl
      have q0 := hB2.cell 0 rfl
      have HR2 := Lib.hid hR2; have HB2 := Lib.hid hB2; have HF2 := Lib.hid hF2
      clear hD2 hR2 hB2 hF2 hcs2 hg2 hc1 hx0 hY
      by_cases h4 : max most 0 < (N : Int)
      · rw [if_pos h4] at hX
        have HX := Lib.hid hX; clear hX
        go_wp2
        exact raw_door b a n c bs 0 4 w w2 _ _ _ HX.out HD2.out rfl rfl
      · rw [if_neg h4] at hX
        by_cases h2 : (r.length : Int) < N
        · rw [if_pos h2] at hX
          have HX := Lib.hid hX; clear hX
          go_wp2
          exact raw_door b a n c bs 0 2 w w2 _ _ _ HX.out HD2.out rfl rfl
        · rw [if_neg h2] at hX
          have HX := Lib.hid hX; clear hX
          go_wp2_with fail
          have hN : N ≤ r.length := by omega
          refine (clone8 _ (r.take N) w2 (HR2.out.take hN) (by simp; omega)).mono ?_
          rintro en w3 ⟨v3, rfl, ho3, hE3⟩
          have hD3 := HD2.out.go (Ext.grownBy hE3 _) ⟨r, 0, _, HB2.out.ext hE3, HR2.out.ext hE3, HF2.out⟩
          have p0 := hD3.pr.cell 0 rfl
          have q0 := (HB2.out.ext hE3).cell 0 rfl
          have q1 := (HB2.out.ext hE3).free 0
          have HD3 := Lib.hid hD3; have HE3 := Lib.hid hE3; have HO3 := Lib.hid ho3
          clear hD3 hE3 ho3
          go_wp2
          have hR4 := (HR2.out.ext HE3.out).drop hN
          have hoff4 := (rdr_off (HR2.out.ext HE3.out) (HB2.out.ext HE3.out) ⟨_, _, _, rfl⟩).drop hN
          have h4 := rdr_put (HB2.out.ext HE3.out) hR4 hoff4 HF2.out.drop
          have hD4 := HD3.out.go (grown_set w3 b 0 _) ⟨_, _, h4⟩
          have hV4 := (newRd_own HO3.out (w := w) (by have := HD2.out.g.size; exact this)).grown hlt (grown_set w3 b 0 (.slice (if c2 = N then a2 else a2.map (·.add N)) (r.length - N) (c2 - N)))
          have H4 := Lib.hid h4; have HD4 := Lib.hid hD4; have HV4 := Lib.hid hV4
          clear hR4 hoff4 h4 hD4 hV4
          go_region
          clear p0 q0 q1
          generalize Value.slice (if c2 = N then a2 else a2.map (·.add N)) (r.length - N) (c2 - N) = v5 at *
          generalize w3.setCell ⟨b, 0, none⟩ v5 = W4 at *
          have f1 := HD4.out.pe.free 0
          have k1 := HD4.out.pe.cell 0 rfl
          go_wp2
          refine leaves_cons (f := 66) (args := #[ptr w.heap.size, ptr (w.heap.size + 2), ptr (w.heap.size + 1)]) (by simp) (by simp [go_sem]) ?_
          refine (idle_Raw b _ _ _ a n c _ (((HD4.out.pr.other ⟨w.heap.size + 1, 0, none⟩ (.int .i64 0) (by simp)).drew).cell 0 rfl) (((HD4.out.pw.other ⟨w.heap.size + 1, 0, none⟩ (.int .i64 0) (by simp)).drew).cell 0 rfl)).mono ?_
          rintro en u w5 ⟨rfl, rfl, hF⟩
          obtain ⟨h1, h2, h3⟩ := HD4.out.ok H4.out _ rfl
          have hV := HV4.out.set 0 (.int .i64 0) HD4.out.pe (fun x hx y => by simp at hx; subst hx; simp)
          have e3 : w5.cell? ⟨w.heap.size + 1, 0, none⟩ = some (.int .i64 0) := by rw [hF]; exact h3
          have g3 : w.grownBy w5 (some b) := by rw [hF]; exact grown_drew h1
          have r3 : Rdr w5 b (r.drop N) 0 := by rw [hF]; obtain ⟨v, hB, hR⟩ := h2; exact ⟨v, hB.drew, hR⟩
          have n3 : NewRd w (r.take N) v3 w5 := by rw [hF]; exact ⟨hV.1, hV.2.1, hV.2.2.drew⟩
          clear hF h1 h2 h3 hV
          have hX := HX.out
          simp only [Int.toNat_natCast] at hX
          rw [hX]
          simp [Leaves, settle, results, Try.results37, go_sem, e3]
          exact ⟨g3, _, rfl, n3, r3⟩
  · simp only [if_neg he] at hen
    subst hen
    exact raw_door b a n c bs e e w w1 _ _ _ (by simp [stuck?, he]) HD.out rfl rfl
end Go.Proofs.Ytgefphfnicjbiaa
