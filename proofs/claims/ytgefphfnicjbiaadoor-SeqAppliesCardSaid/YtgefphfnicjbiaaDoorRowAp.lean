/- From a walk to a law's row: a book and an entry opened; the laid tables of SHA-256 (layer 25). -/
import Derived.Test.YtgefphfnicjbiaaDoorRowD
import Derived.Test.YtgefphfnicjbiaaDoorRowS
import Derived.Test.YtgefphfnicjbiaaDoorBun3
import Derived.Test.YtgefphfnicjbiaaDoorSqs
import Derived.Test.YtgefphfnicjbiaaDoorSh3
import Derived.Lib.LaidU8
set_option linter.unusedSimpArgs false
set_option linter.unusedVariables false
namespace Go.Proofs.YtgefphfnicjbiaaDoor
open Go Go.RowKit Go.ChangeShapes Go.WideShapes Go.ChangeAt Go.Deep

theorem list2' {α : Type} {l : List α} (h : l.length = 2) : ∃ a b, l = [a, b] := by
  match l, h with
  | [a, b], _ => exact ⟨a, b, rfl⟩
theorem sc53 : Tryd.prog.cellsOf 45 = 1 := by kernel_rfl
theorem sc59 : Tryd.prog.cellsOf 49 = 2 := by kernel_rfl
theorem sc55 : Tryd.prog.cellsOf 47 = 2 := by kernel_rfl
theorem sc27 : Tryd.prog.cellsOf 25 = 2 := by kernel_rfl
theorem sc24b : Tryd.prog.cellsOf 22 = 1 := by kernel_rfl
theorem sc25 : Tryd.prog.cellsOf 23 = 1 := by kernel_rfl
theorem slot_of_trod {H : Type} {enc : TypeId × Value → H} {W : World} {base fuel : Nat} {sp : Nat → Bool} {held : Bool} {cs : List Value} {x : DataW H × List MemPlace}
    (h : DataW.trod enc Tryd.prog W base sp held fuel 49 cs = some x) : ∃ s : Int × Int, cs = slR s ∧ (U64 s.1 ∧ U64 s.2) := by
  obtain ⟨xs, n, _, rfl, hl, hxl, hf⟩ := DataW.trod_struct Tryd.underlying49 h
  rw [sc59] at hl
  obtain ⟨c0, c1, rfl⟩ := list2' hl
  obtain ⟨y0, y1, rfl⟩ := list2' (show xs.length = 2 from hxl)
  have h0 := hf 0 _ rfl; have h1 := hf 1 _ rfl
  simp [sc22] at h0 h1
  obtain ⟨t, e0, rfl, w0⟩ := DataW.trod_int Tryd.underlying26 h0
  obtain ⟨k, e1, rfl, w1⟩ := DataW.trod_int Tryd.underlying26 h1
  simp only [List.cons.injEq, and_true] at e0 e1
  subst e0 e1
  exact ⟨(t, k), rfl, u64_wf w0, u64_wf w1⟩
instance : Inhabited CQ := ⟨⟨⟨0, []⟩, undef⟩⟩
instance : Inhabited LQ := ⟨⟨[], undef⟩⟩
theorem client_of_trod {H : Type} {enc : TypeId × Value → H} {W : World} {base fuel : Nat} {sp : Nat → Bool} {held : Bool} {cs : List Value} {x : DataW H × List MemPlace}
    (h : DataW.trod enc Tryd.prog W base sp held fuel 47 cs = some x) (hz : ∀ n ∈ x.1.weights Tryd.prog 47, n ≤ reachBytes) :
    ∃ q : CQ, cs = clR q ∧ (ClV W q ∧ U64 q.1.id ∧ ∀ s ∈ q.1.slots, U64 s.1 ∧ U64 s.2) := by
  obtain ⟨xs, n, _, rfl, hl, hxl, hf⟩ := DataW.trod_struct Tryd.underlying47 h
  rw [sc55] at hl
  obtain ⟨c0, c1, rfl⟩ := list2' hl
  obtain ⟨y0, y1, rfl⟩ := list2' (show xs.length = 2 from hxl)
  have h0 := hf 0 _ rfl; have h1 := hf 1 _ rfl
  simp [sc22, sc53] at h0 h1
  obtain ⟨t, e0, rfl, w0⟩ := DataW.trod_int Tryd.underlying26 h0
  have hw : ∀ n, n ∈ y1.1.weights Tryd.prog 45 → n ≤ reachBytes := fun n hn => hz n (by
    simp [DataW.weights, Tryd.underlying47, DataW.weightsEach]
    exact hn)
  obtain ⟨sv, ss, e1, r1, o1, -⟩ := rows_of_trod (α := Int × Int) Tryd.underlying45 sc59 (by omega) slR (fun q => rfl) (fun s => U64 s.1 ∧ U64 s.2) (fun cs x f h hz => slot_of_trod h) h1 hw
  simp only [List.cons.injEq, and_true] at e0 e1
  subst e0 e1
  exact ⟨(⟨t, ss⟩, _), rfl, r1, u64_wf w0, o1⟩
theorem leaf_of_trod {H : Type} {enc : TypeId × Value → H} {W : World} {base fuel : Nat} {sp : Nat → Bool} {held : Bool} {cs : List Value} {x : DataW H × List MemPlace}
    (h : DataW.trod enc Tryd.prog W base sp held fuel 27 cs = some x) (hz : ∀ n ∈ x.1.weights Tryd.prog 27, n ≤ reachBytes) :
    ∃ q : LQ, cs = lfR q ∧ (Rd W q.2 (u8s q.1) ∧ B8 q.1) := by
  obtain ⟨dv, ds, e4, r4, w4, b4⟩ := rd_of_trod Tryd.underlying27 Tryd.underlying5 sc5 h hz
  exact ⟨(ds, dv), e4, r4, fun z hz => u8_wf (w4 z hz)⟩
set_option maxRecDepth 100000 in
theorem book_open0 {H : Type} {enc : TypeId × Value → H} {W : World} {base : Nat} {sp : Nat → Bool} {held : Bool} {v : Value} {d : DataW H} {ps : List MemPlace} {r : Reach} {b0 : Nat}
    (hv : Value.okWide Tryd.prog W r b0 25 v) (h : DataW.Trod enc Tryd.prog W base sp held 25 v d ps) (hz : ∀ n ∈ d.weights Tryd.prog 25, n ≤ reachBytes) :
    ∃ b : Bk, BookV W v b ∧ OkK b := by
  obtain ⟨cs, rfl, hsz⟩ := okWide_struct Tryd.underlying25 hv
  obtain ⟨fuel, hf⟩ := h
  obtain ⟨xs, n, _, hd, hl, hxl, hff⟩ := DataW.trod_struct Tryd.underlying25 hf
  rw [sc27] at hl hsz
  obtain ⟨c0, c1, hc⟩ : ∃ c0 c1, cs = #[c0, c1] := by
    obtain ⟨a, b, h⟩ := list2' (l := cs.toList) (by simpa using hsz)
    exact ⟨a, b, by rw [← Array.toArray_toList (xs := cs), h]⟩
  subst hc
  obtain ⟨y0, y1, rfl⟩ := list2' (show xs.length = 2 from hxl)
  have h0 := hff 0 _ rfl; have h1 := hff 1 _ rfl
  simp [Value.cells, sc24b, sc25] at h0 h1
  have hd' : d = .agg [y0.1, y1.1] := by simpa using congrArg Prod.fst hd
  subst hd'
  have hw : ∀ n, n ∈ y0.1.weights Tryd.prog 22 ∨ n ∈ y1.1.weights Tryd.prog 23 → n ≤ reachBytes := fun n hn => hz n (by
    simp [DataW.weights, Tryd.underlying25, DataW.weightsEach]
    exact hn)
  obtain ⟨lv, L, e0, r0, o0, -⟩ := rows_of_trod (α := LQ) Tryd.underlying22 sc23 (by omega) lfR (fun q => rfl) (fun q => Rd W q.2 (u8s q.1) ∧ B8 q.1) (fun cs x f h hz => leaf_of_trod h hz) h0 (fun n hn => hw n (.inl hn))
  obtain ⟨cv, C, e1, r1, o1, -⟩ := rows_of_trod (α := CQ) Tryd.underlying23 sc55 (by omega) clR (fun q => rfl) (fun q => ClV W q ∧ U64 q.1.id ∧ ∀ s ∈ q.1.slots, U64 s.1 ∧ U64 s.2) (fun cs x f h hz => client_of_trod h hz) h1 (fun n hn => hw n (.inr hn))
  simp only [List.cons.injEq, and_true] at e0 e1
  subst e0 e1
  obtain ⟨_, lc, -, l1, l2⟩ := r0.shape
  obtain ⟨_, cc, -, k1, k2⟩ := r1.shape
  rw [List.length_map] at l1 k1
  refine ⟨⟨L.map (·.1), C.map (·.1)⟩, ⟨_, _, L, C, rfl, rfl, rfl, r0, r1, fun q hq => (o0 q hq).1, fun q hq => (o1 q hq).1⟩, ⟨?_, ?_, ?_, ?_⟩⟩
  · dsimp only; rw [List.length_map]; omega
  · intro l hl
    obtain ⟨q, hq, rfl⟩ := List.mem_map.1 hl
    have := (o0 q hq).1.len
    rw [u8s_len] at this
    unfold maxLen at this
    exact ⟨by omega, (o0 q hq).2⟩
  · dsimp only; rw [List.length_map]; omega
  · intro c hc
    obtain ⟨q, hq, rfl⟩ := List.mem_map.1 hc
    obtain ⟨_, sc, -, s1, s2⟩ := RowV.shape (show RowV W 2 q.2 (q.1.slots.map slR) from (o1 q hq).1)
    rw [List.length_map] at s1
    exact ⟨(o1 q hq).2.1, by omega, (o1 q hq).2.2⟩
set_option maxRecDepth 100000 in
theorem entry_open {H : Type} {enc : TypeId × Value → H} {W : World} {base : Nat} {sp : Nat → Bool} {held : Bool} {v : Value} {d : DataW H} {ps : List MemPlace} {r : Reach} {b0 : Nat}
    (hv : Value.okWide Tryd.prog W r b0 30 v) (h : DataW.Trod enc Tryd.prog W base sp held 30 v d ps) (hz : ∀ n ∈ d.weights Tryd.prog 30, n ≤ reachBytes) :
    ∃ q : QE, v = .agg (qC q).toArray ∧ QOk W q ∧ QU q := by
  obtain ⟨cs, rfl, hsz⟩ := okWide_struct Tryd.underlying30 hv
  obtain ⟨fuel, hf⟩ := h
  obtain ⟨q, hq, h1, h2⟩ := qe_of_trod hf hz
  refine ⟨q, ?_, h1, h2⟩
  have : cs.toList = qC q := hq
  rw [← this]
/-! ### The laid tables -/
theorem tab_of {P : Program} {W : World} {name : String} {k : IntKind} {zs : List Int} {g : Nat} {t e : TypeId} {n : Nat}
    (hg : P.globalNamed name = some g) (hty : (P.globals[g]?).map (·.type) = some t) (ht : P.underlying t = some (.array n e)) (he : P.underlying e = some (.int k)) (hce : P.cellsOf e = 1) (hct : P.cellsOf t = n)
    (h : Lib.VarReads P W name (Lib.tabData k zs)) (i : Nat) (hi : i < zs.length) : W.cell? ⟨g, i, none⟩ = some (.int k (zs.getD i 0)) := by
  obtain ⟨g', t', cs, fuel, p, hg', ht', hvar, hd⟩ := h
  obtain rfl := Option.some.inj (hg.symm.trans hg')
  obtain rfl := Option.some.inj (hty.symm.trans ht')
  have hT : Lib.TabIs P W name k zs := by
    unfold Lib.TabIs
    rw [hvar, ← Lib.cells_of_tab ht he hce hct hd]
  exact hT.cell hg i hi
def ksZ : List Int := ksL.map Int.ofNat
def bgZ : List Int := bgL.map Int.ofNat
theorem ksZ_get : ∀ i, i < 64 → ksZ.getD i 0 = iw (kW i) := by decide +kernel
theorem bgZ_get : ∀ i, i < 8 → bgZ.getD i 0 = iw (gW i) := by decide +kernel
set_option maxRecDepth 100000 in
theorem tabs_of {W : World} (h : laidMet Tryd.prog Rows.seqAppliesRow.laid W) : Tabs W := by
  have h1 : Lib.VarReads Tryd.prog W "tabellion/sha.round" (Lib.tabData .u32 ksZ) := Lib.laidMet.reads h (.head _)
  have h2 : Lib.VarReads Tryd.prog W "tabellion/sha.begin" (Lib.tabData .u32 bgZ) := Lib.laidMet.reads h (.tail _ (.head _))
  have h3 : Lib.VarReads Tryd.prog W "tabellion/tabellionref03.constants" (Lib.tabData .u32 ksZ) := Lib.laidMet.reads h (.tail _ (.tail _ (.head _)))
  refine ⟨fun i hi => ?_, fun i hi => ?_, fun i hi => ?_⟩
  · have := tab_of (g := 0) (t := 79) (e := 78) (n := 8) (by kernel_rfl) (by kernel_rfl) (by kernel_rfl) (by kernel_rfl) (by kernel_rfl) (by kernel_rfl) h2 i hi
    rw [bgZ_get i hi] at this; exact this
  · have := tab_of (g := 1) (t := 106) (e := 78) (n := 64) (by kernel_rfl) (by kernel_rfl) (by kernel_rfl) (by kernel_rfl) (by kernel_rfl) (by kernel_rfl) h1 i hi
    rw [ksZ_get i hi] at this; exact this
  · have := tab_of (g := 2) (t := 106) (e := 78) (n := 64) (by kernel_rfl) (by kernel_rfl) (by kernel_rfl) (by kernel_rfl) (by kernel_rfl) (by kernel_rfl) h3 i hi
    rw [ksZ_get i hi] at this; exact this
end Go.Proofs.YtgefphfnicjbiaaDoor
