/- tabellionlaw19: copied's walk. PRINTED BY gen/cpn.py -/
import Derived.Test.YtjodgbabfhcilaaCp2
import Derived.Test.YtjodgbabfhcilaaBun10
set_option linter.unusedSimpArgs false
set_option linter.unusedVariables false
namespace Go.Proofs.Ytjodgbabfhcilaa
open Go Go.RowKit Go.Maps

/-- v's elements, if it has any, lie in a block from B on that no string shares. -/
def NU (B : Nat) (w : World) (v : Value) : Prop := ∀ a n c, v = .slice (some a) n c → n ≠ 0 → B ≤ a.block ∧ UnB w a.block
section
variable {B B' : Nat} {w w' : World} {v : Value} {cs : List Value}
theorem NU.ext (h : NU B w v) (hE : Ext w w') : NU B w' v := fun a n c e hn => ⟨(h a n c e hn).1, (h a n c e hn).2.ext hE⟩
theorem NU.set (h : NU B w v) (b j : Nat) (u : Value) : NU B (w.setCell ⟨b, j, none⟩ u) v := fun a n c e hn => ⟨(h a n c e hn).1, (h a n c e hn).2.set b j u⟩
theorem NU.mono (h : NU B w v) (hB : B' ≤ B) : NU B' w v := fun a n c e hn => ⟨Nat.le_trans hB (h a n c e hn).1, (h a n c e hn).2⟩
theorem NU.unA (h : NU B w v) : UnA w v := fun a n c e hn => (h a n c e hn).2
theorem NU.row (h : NU B w v) (b : Nat) (cells : Array Value) : NU B (w.setRow b cells) v := fun a n c e hn => by
  obtain ⟨h1, cs, t, hB⟩ := h a n c e hn
  refine ⟨h1, ?_⟩
  by_cases hb : b = a.block
  · subst hb; exact ⟨_, _, hB.row cells⟩
  · exact ⟨_, _, hB.grown (grown_row w b cells) (by simpa using Ne.symm hb)⟩
/-- v holds cs, in a block from B on that no string shares. -/
def NewU (B : Nat) (cs : List Value) (v : Value) (w : World) : Prop := NewL B cs v w ∧ NU B w v
theorem NewU.ext (h : NewU B cs v w) (hE : Ext w w') : NewU B cs v w' := ⟨h.1.ext hE, h.2.ext hE⟩
theorem NewU.mono (h : NewU B cs v w) (hB : B' ≤ B) : NewU B' cs v w := ⟨⟨h.1.1, fun a n c e hn => Nat.le_trans hB (h.1.2 a n c e hn)⟩, h.2.mono hB⟩
theorem Lies.newU {e : TypeId} {m : Nat} {v' : Value} (h : Lies w w' e m cs v') (hl : cs.length = m) : NewU w.heap.size cs v' w' := by
  refine ⟨h.new hl, fun a n c hv hn => ?_⟩
  obtain ⟨ad, c', rfl, _, _, h3⟩ := h
  cases hv
  rcases h3 with h3 | ⟨g, h4, h5, _, cur, hB, _⟩
  · exact absurd h3 hn
  · cases h4; exact ⟨h5, _, _, hB⟩
end
section
variable {P : Program} {w : World} {ops : Array Oper} {rest : List Oper} {o : Oper} {a : Act} {Q : Exit → Act → World → Prop}
theorem wpList_append_fresh1u {t e : TypeId} {z : Value} {bytes : Nat} (hgd : o.guard = none) (s x : Operand) (ho : o.op = .call { callee := .builtin .append, args := #[s, x], argTypes := #[t, t] })
    (hT : ElT P t e z bytes) (p : Nat) (hs : a.eval s = .slice (some ⟨p, 0, none⟩) 0 0) (vx : Value) (cs : List Value) (hx : a.eval x = vx) (hrd : Rd w vx cs) (hbytes : cs.length * bytes ≤ 140737488355328) (h63 : cs.length ≤ maxLen)
    (h : ∀ v' w', NewU w.heap.size cs v' w' → Ext w w' → wpList P ops Q rest (a.put o.dst v') w') : wpList P ops Q (o :: rest) a w := by
  obtain ⟨i, hi, hz, hsz, hby⟩ := hT.info
  obtain ⟨ad, c, rfl, hlc, hcm, hcs⟩ := hrd
  refine wpList_append_fresh hgd s x t ho e i z 1 bytes hT.ty hi hz hsz hby hT.one (by decide) p hs ad cs.length c cs hx (by simp) ?_ h63 hbytes fun v' w' h1 h2 => h v' w' (h1.newU rfl) h2
  rcases hcs with h0 | ⟨b, o', rfl, hc⟩
  · left; rw [h0]; rfl
  · exact .inr ⟨_, rfl, fun j u hj => by rw [Addr.add_lit]; exact hc j u hj⟩
end
/-- A message in new memory that may be written. -/
def RetMsgN (M : Msg) (w : World) (e : Ending) (w' : World) : Prop := ∃ v', e = .returned v' ∧ MsgR (fun k => w.heap.size ≤ k) w' v' M ∧ MsgU w' v' ∧ Ext w w'
theorem msgR_mk {B g c : Nat} {F : World} {M : Msg} {l : List EVs} {ad : Option Addr} {mv iv : Value} (hl : l.map (·.1) = M.entries) (hq : ∀ q ∈ l, Rd F q.2.1 (u8s q.1.data) ∧ Rd F q.2.2 (u64s q.1.members))
    (hn : ∀ i q, i < l.length → l[i]? = some q → NU B F q.2.1 ∧ NU B F q.2.2) (hrow : Row6 F g l) (hg : B ≤ g) (had : M.entries.length ≠ 0 → ad = some ⟨g, 0, none⟩) (hc : M.entries.length ≤ c) (hc2 : c ≤ maxLen)
    (hd : Rd F mv (u64s M.members)) (nd : NU B F mv) (hf : Rd F iv (u8s M.image)) (nf : NU B F iv) :
    MsgR (fun k => B ≤ k) F (.agg (mCells M (.slice ad M.entries.length c) mv iv)) M ∧ MsgU F (.agg (mCells M (.slice ad M.entries.length c) mv iv)) := by
  have hll : l.length = M.entries.length := by rw [← hl]; simp
  have hnq : ∀ q ∈ l, NU B F q.2.1 ∧ NU B F q.2.2 := fun q hm => by
    obtain ⟨i, hi, rfl⟩ := List.getElem_of_mem hm
    exact hn i _ hi (List.getElem?_eq_getElem hi)
  have key : ∀ {v : Value} {cs : List Value}, Rd F v cs → NU B F v → RdR (fun k => B ≤ k) F v cs := fun h k => ⟨h, fun a n c e hne => (k a n c e (fun e2 => hne (List.eq_nil_of_length_eq_zero (by rw [← h.n e]; exact e2)))).1⟩
  have hne0 : ∀ {a : Addr} {n c' : Nat}, Value.slice ad M.entries.length c = .slice (some a) n c' → n ≠ 0 → a = ⟨g, 0, none⟩ := fun e hn0 => by
    cases e
    exact Option.some.inj (had hn0)
  refine ⟨⟨_, _, _, rfl, ⟨l, hl, fun q hm => ⟨key (hq q hm).1 (hnq q hm).1, key (hq q hm).2 (hnq q hm).2⟩, ⟨ad, c, by rw [List.length_map, hll], by rw [List.length_map, hll]; exact hc, hc2, ?_⟩, fun a n c' e hne => ?_⟩, key hd nd, key hf nf⟩, M, _, _, _, rfl, ⟨fun a n c' e hn0 => ?_, fun b f n c' e j hj x hx => ?_⟩, nd.unA, nf.unA⟩
  · by_cases h0 : M.entries.length = 0
    · left; rw [List.map_eq_nil_iff]; exact List.eq_nil_of_length_eq_zero (by omega)
    · refine .inr ⟨g, 0, had h0, fun i r hr j u hu => ?_⟩
      rw [List.getElem?_map] at hr
      cases hqi : l[i]? with
      | none => rw [hqi] at hr; cases hr
      | some q =>
        rw [hqi] at hr
        cases hr
        rw [Nat.zero_add]
        exact (hrow.get hqi hu).1
  · rw [hne0 e (by cases e; exact fun e2 => hne (List.eq_nil_of_length_eq_zero e2))]; exact hg
  · rw [hne0 e hn0]
    obtain ⟨cur, E, hb, _⟩ := hrow
    exact ⟨_, _, hb⟩
  · have hn0 : n ≠ 0 := by intro e2; rw [e2] at hj; omega
    have e2 := hne0 e hn0
    cases e2
    cases e
    have hi : j / 6 < l.length := by omega
    have hr : j % 6 < 6 := Nat.mod_lt _ (by decide)
    obtain ⟨q, hqi⟩ : ∃ q, l[j / 6]? = some q := ⟨_, List.getElem?_eq_getElem hi⟩
    have hu : (eC q)[j % 6]? = some ((eC q)[j % 6]'(by simpa [eC, eCells] using hr)) := List.getElem?_eq_getElem _
    have h1 := (hrow.get hqi hu).1
    rw [show j / 6 * 6 + j % 6 = j by omega] at h1
    rw [Nat.zero_add, h1] at hx
    have hnn := hnq q (List.mem_of_getElem? hqi)
    have hx2 : x ∈ eC q := by cases hx; exact List.getElem_mem _
    simp [eC, eCells] at hx2
    rcases hx2 with rfl | rfl | rfl | rfl | rfl | rfl
    · exact UnA.not _ (by intro a n c e; cases e)
    · exact UnA.not _ (by intro a n c e; cases e)
    · exact UnA.not _ (by intro a n c e; cases e)
    · exact UnA.not _ (by intro a n c e; cases e)
    · exact hnn.1.unA
    · exact hnn.2.unA
theorem cpn_ret (M : Msg) (b : Nat) (b9 b10 b11 : Option Addr) (n9 c9 n10 c10 n11 c11 : Nat) (F : World) (tmps : Array Value) (R : Ending → World → Prop) (hx' : Blk F b (mCells M (.slice b9 n9 c9) (.slice b10 n10 c10) (.slice b11 n11 c11)) 34)
    (hz : tmps[2]? = some (ptr b)) (h : R (.returned (.agg (mCells M (.slice b9 n9 c9) (.slice b10 n10 c10) (.slice b11 n11 c11)))) F) :
    bodyPost Try.prog Try.f13 R .ret { tmps := tmps, defers := [] } F := by
  simp only [mCells] at hx'
  have x0 := hx'.cell 0 rfl; have x1 := hx'.cell 1 rfl; have x2 := hx'.cell 2 rfl; have x3 := hx'.cell 3 rfl; have x4 := hx'.cell 4 rfl; have x5 := hx'.cell 5 rfl
  have x6 := hx'.cell 6 rfl; have x7 := hx'.cell 7 rfl; have x8 := hx'.cell 8 rfl; have x9 := hx'.cell 9 rfl; have x10 := hx'.cell 10 rfl; have x11 := hx'.cell 11 rfl
  simp at x0 x1 x2 x3 x4 x5 x6 x7 x8 x9 x10 x11
  refine bodyPost_ret ?_ rfl h
  simp [results, Try.results13, go_sem, hz, x0, x1, x2, x3, x4, x5, x6, x7, x8, x9, x10, x11, mCells]

set_option maxRecDepth 100000 in
set_option maxHeartbeats 8000000 in
theorem copied19 (v : Value) (M : Msg) (w : World) (hv : MsgV w 0 v M) (hbd : MsgBd M) : Calls Try.prog 13 #[v] w (RetMsgN M w) := by
  obtain ⟨ev, mv, iv, rfl, ⟨_, cs, o, a9, c9, rfl, hlc, hcm, hecs, hcl⟩, ⟨hms, _⟩, hi, _⟩ := hv
  obtain ⟨a10, n10, c10, rfl⟩ := Rd.shape hms
  obtain ⟨a11, n11, c11, rfl⟩ := Rd.shape hi
  obtain ⟨n9, hn9⟩ : ∃ n9, n9 = M.entries.length := ⟨_, rfl⟩
  obtain ⟨l, hmap, rfl, hrd⟩ := hecs.list
  have hll : l.length = M.entries.length := by rw [← hmap]; simp
  obtain ⟨hb1, hb2, hb3, hb4⟩ := hbd
  have HMS := Lib.hid hms; have HI := Lib.hid hi; have HRD := Lib.hid hrd; have HCL := Lib.hid hcl; have HMAP0 := Lib.hid hmap; have HB2 := Lib.hid hb2
  clear hms hi hrd hcl hmap hecs hb2
  have hE0 : Ext w ((w.alloc (.cells #[.int .i64 M.kind, .int .u64 M.src, .int .u64 M.dst, .int .u64 M.term, .int .u64 M.index, .int .u64 M.logTerm, .int .u64 M.commit, .int .u64 M.stamp, .bool M.yes, .slice a9 M.entries.length c9, .slice a10 n10 c10, .slice a11 n11 c11] 34)).alloc (.cells (zc 0) 34)) := (Ext.alloc _ _).trans (Ext.alloc _ _)
  have hK0 : Blk ((w.alloc (.cells #[.int .i64 M.kind, .int .u64 M.src, .int .u64 M.dst, .int .u64 M.term, .int .u64 M.index, .int .u64 M.logTerm, .int .u64 M.commit, .int .u64 M.stamp, .bool M.yes, .slice a9 M.entries.length c9, .slice a10 n10 c10, .slice a11 n11 c11] 34)).alloc (.cells (zc 0) 34)) w.heap.size #[.int .i64 M.kind, .int .u64 M.src, .int .u64 M.dst, .int .u64 M.term, .int .u64 M.index, .int .u64 M.logTerm, .int .u64 M.commit, .int .u64 M.stamp, .bool M.yes, .slice a9 M.entries.length c9, .slice a10 n10 c10, .slice a11 n11 c11] 34 := (Blk.new w _ _).alloc _
  have hK1 : Blk ((w.alloc (.cells #[.int .i64 M.kind, .int .u64 M.src, .int .u64 M.dst, .int .u64 M.term, .int .u64 M.index, .int .u64 M.logTerm, .int .u64 M.commit, .int .u64 M.stamp, .bool M.yes, .slice a9 M.entries.length c9, .slice a10 n10 c10, .slice a11 n11 c11] 34)).alloc (.cells (zc 0) 34)) (w.heap.size + 1) (zc 0) 34 := by
    have := Blk.new (w.alloc (.cells #[.int .i64 M.kind, .int .u64 M.src, .int .u64 M.dst, .int .u64 M.term, .int .u64 M.index, .int .u64 M.logTerm, .int .u64 M.commit, .int .u64 M.stamp, .bool M.yes, .slice a9 M.entries.length c9, .slice a10 n10 c10, .slice a11 n11 c11] 34)) (zc 0) 34
    simpa using this
  have hs0 : ((w.alloc (.cells #[.int .i64 M.kind, .int .u64 M.src, .int .u64 M.dst, .int .u64 M.term, .int .u64 M.index, .int .u64 M.logTerm, .int .u64 M.commit, .int .u64 M.stamp, .bool M.yes, .slice a9 M.entries.length c9, .slice a10 n10 c10, .slice a11 n11 c11] 34)).alloc (.cells (zc 0) 34)).heap.size = w.heap.size + 2 := by simp
  have HE0 := Lib.hid hE0; have HK0 := Lib.hid hK0; have HK1 := Lib.hid hK1; have HS0 := Lib.hid hs0
  clear hE0 hK0 hK1 hs0
  obtain ⟨ei, eh, ez, es, eb⟩ := info_parts infoEnt
  simp only [mCells]
  go_enter Try.func13, Try.ntmps13
  go_upto_region 1 with fail
  generalize (w.alloc (.cells #[.int .i64 M.kind, .int .u64 M.src, .int .u64 M.dst, .int .u64 M.term, .int .u64 M.index, .int .u64 M.logTerm, .int .u64 M.commit, .int .u64 M.stamp, .bool M.yes, .slice a9 M.entries.length c9, .slice a10 n10 c10, .slice a11 n11 c11] 34)).alloc (.cells (zc 0) 34) = w0 at *
  have ck := fun o => (HK0.out.alloc o).cell 9 rfl
  have fl6 : (l.flatMap eC).length = M.entries.length * 6 := by rw [flatLen, hll]
  have FL6 := Lib.hid fl6
  clear fl6
  go_wp2_with ((at_builtin; refine wpList_append_fresh rfl (.tmp 4) (.tmp 6) _ rfl 67 ei _ 6 80 Try.underlying30 eh ez es eb rfl (by decide) w0.heap.size rfl a9 M.entries.length c9 (l.flatMap eC) rfl FL6.out (by rcases HCL.out with h | ⟨b, f, rfl, hc⟩; (left; rw [h]; rfl); (exact .inr ⟨_, rfl, fun j u hj => by rw [Addr.add_lit]; exact (HE0.out.trans (Ext.alloc w0 _)).cell (hc j u hj)⟩)) (by unfold maxLen; omega) (by omega) ?_); intro v1 w1 g1 g2; obtain ⟨ad, c1, rfl, hc1, hm1, hrow⟩ := g1; have hk0 := HK0.out.ext ((Ext.alloc w0 _).trans g2); have k9 := hk0.cell 9 rfl; have z9 := hk0.free 9; have G2 := Lib.hid g2; have HROW0 := Lib.hid hrow; clear hk0 g2 hrow ck)
  have hE1 : Ext w0 w1 := (Ext.alloc w0 _).trans G2.out
  have hs0 := HS0.out
  obtain ⟨g, hg, had, hrow⟩ : ∃ g, w.heap.size + 2 ≤ g ∧ (M.entries.length ≠ 0 → ad = some ⟨g, 0, none⟩) ∧ Row6 w1 g l := by
    rcases HROW0.out with h0 | ⟨g, h1, h2, h3, cur, hcur, hcc⟩
    · have hl0 : l = [] := List.eq_nil_of_length_eq_zero (by omega)
      refine ⟨w0.heap.size, by omega, fun h => absurd h0 h, #[], _, (Blk.new w0 #[] _).ext G2.out, fun i q hi => ?_⟩
      rw [hl0] at hi; simp at hi
    · refine ⟨g, by simp at h2; omega, fun _ => h1, cur, _, hcur, fun i q hi k u hk => hcc _ _ (flat_at l i q k u hi hk)⟩
  have hp0 : w.heap.size < w1.heap.size := by have := hE1.size; omega
  have hK02 := (HK0.out.ext hE1).set 9 (.slice ad M.entries.length c1)
  simp only [List.setIfInBounds_toArray, List.set_cons_succ, List.set_cons_zero] at hK02
  have hC2 : Chg [w.heap.size, w.heap.size + 1, g] w1 (w1.setCell ⟨w.heap.size, 9, none⟩ (.slice ad M.entries.length c1)) := Chg.set w.heap.size 9 _ (by simp)
  have HB := Lib.hid hK02
  have HZ := Lib.hid ((HK1.out.ext hE1).other ⟨w.heap.size, 9, none⟩ (.slice ad M.entries.length c1) (by simp))
  have HROW := Lib.hid (hrow.chg (S := [w.heap.size]) (Chg.set w.heap.size 9 (.slice ad M.entries.length c1) (by simp)) (by simp; omega))
  have HL := Lib.hid (below_set ((HE0.out.trans hE1 : Ext w w1)) w.heap.size 9 (.slice ad M.entries.length c1) (Nat.le_refl _))
  have HLV : Hid (∀ q ∈ l, LVq (w1.setCell ⟨w.heap.size, 9, none⟩ (.slice ad M.entries.length c1)) [w.heap.size, w.heap.size + 1, g] q) := Lib.hid (by
    intro q hq
    obtain ⟨h1, h2⟩ := HRD.out q hq
    have hS : ∀ t ∈ [w.heap.size, w.heap.size + 1, g], w.heap.size ≤ t := by intro t ht; simp at ht; omega
    have hq1 : LVq w [w.heap.size, w.heap.size + 1, g] q := ⟨⟨h1, h1.offL hS⟩, h2, h2.offL hS⟩
    exact (hq1.ext (HE0.out.trans hE1)).chg hC2 (fun t ht => ht))
  unfold maxLen at hm1
  have HAD := Lib.hid had; have HG := Lib.hid hg; have HC1 := Lib.hid hc1; have HM1 := Lib.hid hm1; have HBM := Lib.hid hb3; have HBI := Lib.hid hb4; have HBE := Lib.hid hb1
  clear k9 z9 hK02 hC2 hrow HK0 HK1 G2 HROW0 hs0 hE1 HCL FL6 had eh ez es eb hlc hcm hb1 hb3 hb4 hc1 hm1 hg
  generalize w1.setCell ⟨w.heap.size, 9, none⟩ (.slice ad M.entries.length c1) = w2 at *
  go_loopg [3] M.entries.length (fun gh i wr => ∃ (k : Nat) (l2 : List EVs), k + gh = M.entries.length ∧ i = .int .i64 (k : Int) ∧ l2.map (·.1) = M.entries ∧ Below w.heap.size w wr ∧ Blk wr w.heap.size #[.int .i64 M.kind, .int .u64 M.src, .int .u64 M.dst, .int .u64 M.term, .int .u64 M.index, .int .u64 M.logTerm, .int .u64 M.commit, .int .u64 M.stamp, .bool M.yes, .slice ad M.entries.length c1, .slice a10 n10 c10, .slice a11 n11 c11] 34 ∧ Blk wr (w.heap.size + 1) (zc 0) 34 ∧ Row6 wr g l2 ∧ (∀ q ∈ l2, LVq wr [w.heap.size, w.heap.size + 1, g] q) ∧ ∀ i q, i < k → l2[i]? = some q → NU w.heap.size wr q.2.1 ∧ NU w.heap.size wr q.2.2)
  case atStart => exact ⟨0, l, by omega, rfl, HMAP0.out, HL.out, HB.out, HZ.out, HROW.out, HLV.out, fun i q hi => by omega⟩
  case round =>
    clear HB HZ HROW HL HLV
    obtain ⟨k, l2, hk, rfl, hmap, hL, hB, hZ, hrow, hlv, hnu⟩ := hrel
    have HMAP := Lib.hid hmap; have HL := Lib.hid hL; have HB := Lib.hid hB; have HZ := Lib.hid hZ; have HROW := Lib.hid hrow; have HLV := Lib.hid hlv; have HNU := Lib.hid hnu
    have hc9 := hB.cell 9 rfl
    have hl2 : l2.length = M.entries.length := by rw [← hmap]; simp
    have hwr : w.heap.size + 1 < wr.heap.size := hZ.lt
    have hgr : g < wr.heap.size := hrow.lt
    clear hmap hL hB hZ hrow hlv hnu
    by_cases hlt : k < M.entries.length
    · obtain rfl := HAD.out (by omega)
      clear HAD
      have hg := HG.out
      obtain ⟨⟨x, dv, mv⟩, hkk⟩ : ∃ q, l2[k]? = some q := ⟨_, List.getElem?_eq_getElem (by omega)⟩
      have hxm : x ∈ M.entries := by rw [← HMAP.out]; exact List.mem_map.2 ⟨_, List.mem_of_getElem? hkk, rfl⟩
      obtain ⟨hbd1, hbd2⟩ := HB2.out x hxm
      have hlq := HLV.out _ (List.mem_of_getElem? hkk)
      obtain ⟨da, dn, dc, rfl⟩ := Rd.shape hlq.1.1
      obtain ⟨ma, mn, mc, rfl⟩ := Rd.shape hlq.2.1
      have HK := Lib.hid hkk
      have HQ := Lib.hid hlq.1.1
      obtain ⟨hcq, hfz⟩ := HROW.out.get hkk (k := 4) (u := .slice da dn dc) rfl
      have hbb : x.data.length * 1 ≤ 140737488355328 := by omega
      clear hkk hlq hxm hg
      go_upto_region 5 with fail
      apply Mono.region1 13 Ext [.is _, .is _, .is _, .rel Emp, .is _, .is _, .is _, .is _, .is _, .is _, .rel (NewU wr.heap.size (u8s x.data)), .is _, .is _] (by kernel_rfl) Ext.refl (fun _ _ _ => Ext.trans) (by kernel_rfl) rfl rfl ⟨fun _ _ _ h _ => h, fun _ _ _ h hE => h.ext hE, trivial⟩
      focus
        iterate 3 (apply Mono.step_is; (· refine Mono.obl_mk fun w9 hE9 _ K hK => ?_; (have f9 := hE9.cell hc9); (have fq := hE9.cell hcq); go_wp2_with fail; simp only [Act.put, List.setIfInBounds_toArray, List.set_cons_succ, List.set_cons_zero] at hK; exact hK _ _ (Ext.refl _) (Mono.is_rfl _ _)); simp only [Act.put, List.setIfInBounds_toArray, List.set_cons_succ, List.set_cons_zero])
        refine Mono.step_rel (Mono.obl_mk fun w9 hE9 _ K hK => ?_) fun v19 => ?_
        · go_wp2_with fail
          simp only [Act.put, List.setIfInBounds_toArray, List.set_cons_succ, List.set_cons_zero] at hK
          exact hK _ _ (Ext.alloc _ _) (Mono.rel_mk ⟨_, rfl⟩)
        simp only [Act.put, List.setIfInBounds_toArray, List.set_cons_succ, List.set_cons_zero]
        iterate 6 (apply Mono.step_is; (· refine Mono.obl_mk fun w9 hE9 _ K hK => ?_; (have f9 := hE9.cell hc9); (have fq := hE9.cell hcq); go_wp2_with fail; simp only [Act.put, List.setIfInBounds_toArray, List.set_cons_succ, List.set_cons_zero] at hK; exact hK _ _ (Ext.refl _) (Mono.is_rfl _ _)); simp only [Act.put, List.setIfInBounds_toArray, List.set_cons_succ, List.set_cons_zero])
        refine Mono.step_rel (Mono.obl_mk fun w9 hE9 hkn K hK => ?_) fun v26 => ?_
        · obtain ⟨q19, _⟩ := hkn
          obtain ⟨pp, rfl⟩ := q19 (by kernel_rfl)
          go_wp2_with (at_builtin; refine wpList_append_fresh1u rfl (.tmp 19) (.tmp 25) rfl el8 pp rfl _ (u8s x.data) rfl (HQ.out.ext ((Ext.drew wr).trans hE9)) (by rw [u8s_len]; omega) (by rw [u8s_len]; unfold maxLen; omega) ?_)
          intro v' w' g1 g2
          simp only [Act.put, List.setIfInBounds_toArray, List.set_cons_succ, List.set_cons_zero] at hK
          exact hK _ _ g2 (Mono.rel_mk (g1.mono hE9.size))
        simp only [Act.put, List.setIfInBounds_toArray, List.set_cons_succ, List.set_cons_zero]
        iterate 2 (apply Mono.step_is; (· refine Mono.obl_mk fun w9 hE9 _ K hK => ?_; (have f9 := hE9.cell hc9); (have fq := hE9.cell hcq); go_wp2_with fail; simp only [Act.put, List.setIfInBounds_toArray, List.set_cons_succ, List.set_cons_zero] at hK; exact hK _ _ (Ext.refl _) (Mono.is_rfl _ _)); simp only [Act.put, List.setIfInBounds_toArray, List.set_cons_succ, List.set_cons_zero])
        refine Mono.step_end fun w9 hE9 hkn => ?_
        obtain ⟨_, hnew, _⟩ := hkn
        simp only [List.drop_succ_cons, List.drop_zero]
        replace hE9 := (Ext.drew _).trans hE9
        obtain ⟨na, nn, nc, rfl⟩ := Rd.shape hnew.1.1
        have fq := hE9.cell hcq
        have zq := frozen_ext hE9 hcq hfz
        have HE9 := Lib.hid hE9; have HNEW := Lib.hid hnew
        clear hE9 hnew HQ
        go_upto_region 6 with fail
        have hg := HG.out
        have hC : Chg [w.heap.size, w.heap.size + 1, g] w9 (w9.setCell ⟨g, k * 6 + 4, none⟩ (.slice na nn nc)) := Chg.set g _ _ (by simp)
        have HROW1 := Lib.hid ((HROW.out.ext HE9.out).set (j := 4) (u := .slice na nn nc) (q' := (x, .slice na nn nc, .slice ma mn mc)) HK.out (by decide) rfl)
        have HLV1 : Hid (∀ p ∈ l2.set k (x, .slice na nn nc, .slice ma mn mc), LVq (w9.setCell ⟨g, k * 6 + 4, none⟩ (.slice na nn nc)) [w.heap.size, w.heap.size + 1, g] p) := Lib.hid (by
          intro p hp
          rcases List.mem_or_eq_of_mem_set hp with hp | rfl
          · exact ((HLV.out p hp).ext HE9.out).chg hC (fun t ht => ht)
          · have hq := ((HLV.out _ (List.mem_of_getElem? HK.out)).ext HE9.out).chg hC (fun t ht => ht)
            have hr := HNEW.out.1.1.chg hC (fun a n c hv hne hm => by have := HNEW.out.1.2 a n c hv hne; simp at hm; omega)
            have ho : OffL (.slice na nn nc) _ [w.heap.size, w.heap.size + 1, g] := fun a n c hv hne hm => by have := HNEW.out.1.2 a n c hv hne; simp at hm; omega
            exact ⟨⟨hr, ho⟩, hq.2⟩)
        have HL1 := Lib.hid ((HL.out.trans (show Below w.heap.size wr w9 from Below.mono HE9.out (by omega))).setCell (show w.heap.size ≤ (⟨g, k * 6 + 4, none⟩ : Addr).block by simp; omega) (.slice na nn nc))
        have HB1 := Lib.hid ((HB.out.ext HE9.out).other ⟨g, k * 6 + 4, none⟩ (.slice na nn nc) (by simp; omega))
        have HZ1 := Lib.hid ((HZ.out.ext HE9.out).other ⟨g, k * 6 + 4, none⟩ (.slice na nn nc) (by simp; omega))
        have hm1 : (l2.set k (x, .slice na nn nc, .slice ma mn mc)).map (·.1) = l2.map (·.1) := by
          rw [List.map_set]
          apply List.ext_getElem?
          intro i
          by_cases hik : k = i
          · subst hik
            rw [List.getElem?_set_self (by have := (List.getElem?_eq_some_iff.1 HK.out).1; simpa using this), List.getElem?_map, HK.out]; rfl
          · rw [List.getElem?_set_ne hik]
        have hk1 : (l2.set k (x, .slice na nn nc, .slice ma mn mc))[k]? = some (x, .slice na nn nc, .slice ma mn mc) := List.getElem?_set_self (List.getElem?_eq_some_iff.1 HK.out).1
        have hgs1 : g < (w9.setCell ⟨g, k * 6 + 4, none⟩ (.slice na nn nc)).heap.size := HROW1.out.lt
        rw [HMAP.out] at hm1
        have HNU1 : Hid (∀ i q, i < k → (l2.set k (x, .slice na nn nc, .slice ma mn mc))[i]? = some q → NU w.heap.size (w9.setCell ⟨g, k * 6 + 4, none⟩ (.slice na nn nc)) q.2.1 ∧ NU w.heap.size (w9.setCell ⟨g, k * 6 + 4, none⟩ (.slice na nn nc)) q.2.2) := Lib.hid (fun i q hi hq => by
          rw [List.getElem?_set_ne (by omega)] at hq
          exact ⟨((HNU.out i q hi hq).1.ext HE9.out).set _ _ _, ((HNU.out i q hi hq).2.ext HE9.out).set _ _ _⟩)
        have HNA := Lib.hid ((HNEW.out.2.mono (show w.heap.size ≤ _ by omega)).set g (k * 6 + 4) (.slice na nn nc))
        
        have HMAP1 := Lib.hid hm1; have HK1 := Lib.hid hk1
        clear hg fq zq hcq hc9 hfz hC hm1 hk1 HROW HLV HL HB HZ HMAP HK HE9 HNEW HNU
        generalize w9.setCell ⟨g, k * 6 + 4, none⟩ (.slice na nn nc) = w5 at *
        have HROW := HROW1; have HLV := HLV1; have HL := HL1; have HB := HB1; have HZ := HZ1; have HMAP := HMAP1; have HK := HK1; have HNU := HNU1
        clear HROW1 HLV1 HL1 HB1 HZ1 HMAP1 HK1 HNU1
        generalize l2.set k (x, .slice na nn nc, .slice ma mn mc) = l3 at *
        have hlq := HLV.out _ (List.mem_of_getElem? HK.out)
        have HQ := Lib.hid hlq.2.1
        have hc9 := HB.out.cell 9 rfl
        obtain ⟨hcq, hfz⟩ := HROW.out.get HK.out (k := 5) (u := .slice ma mn mc) rfl
        have hw5 : w.heap.size + 1 < w5.heap.size := HZ.out.lt
        clear hlq
        go_upto_region 6 with fail
        apply Mono.region1 13 Ext [.is _, .is _, .is _, .rel Emp, .is _, .is _, .is _, .is _, .is _, .is _, .rel (NewU w5.heap.size (u64s x.members)), .is _, .is _] (by kernel_rfl) Ext.refl (fun _ _ _ => Ext.trans) (by kernel_rfl) rfl rfl ⟨fun _ _ _ h _ => h, fun _ _ _ h hE => h.ext hE, trivial⟩
        focus
          iterate 3 (apply Mono.step_is; (· refine Mono.obl_mk fun w9 hE9 _ K hK => ?_; (have f9 := hE9.cell hc9); (have fq := hE9.cell hcq); go_wp2_with fail; simp only [Act.put, List.setIfInBounds_toArray, List.set_cons_succ, List.set_cons_zero] at hK; exact hK _ _ (Ext.refl _) (Mono.is_rfl _ _)); simp only [Act.put, List.setIfInBounds_toArray, List.set_cons_succ, List.set_cons_zero])
          refine Mono.step_rel (Mono.obl_mk fun w9 hE9 _ K hK => ?_) fun v19 => ?_
          · go_wp2_with fail
            simp only [Act.put, List.setIfInBounds_toArray, List.set_cons_succ, List.set_cons_zero] at hK
            exact hK _ _ (Ext.alloc _ _) (Mono.rel_mk ⟨_, rfl⟩)
          simp only [Act.put, List.setIfInBounds_toArray, List.set_cons_succ, List.set_cons_zero]
          iterate 6 (apply Mono.step_is; (· refine Mono.obl_mk fun w9 hE9 _ K hK => ?_; (have f9 := hE9.cell hc9); (have fq := hE9.cell hcq); go_wp2_with fail; simp only [Act.put, List.setIfInBounds_toArray, List.set_cons_succ, List.set_cons_zero] at hK; exact hK _ _ (Ext.refl _) (Mono.is_rfl _ _)); simp only [Act.put, List.setIfInBounds_toArray, List.set_cons_succ, List.set_cons_zero])
          refine Mono.step_rel (Mono.obl_mk fun w9 hE9 hkn K hK => ?_) fun v26 => ?_
          · obtain ⟨q19, _⟩ := hkn
            obtain ⟨pp, rfl⟩ := q19 (by kernel_rfl)
            go_wp2_with (at_builtin; refine wpList_append_fresh1u rfl (.tmp 32) (.tmp 38) rfl el64 pp rfl _ (u64s x.members) rfl (HQ.out.ext ((Ext.drew w5).trans hE9)) (by rw [u64s_len]; omega) (by rw [u64s_len]; unfold maxLen; omega) ?_)
            intro v' w' g1 g2
            simp only [Act.put, List.setIfInBounds_toArray, List.set_cons_succ, List.set_cons_zero] at hK
            exact hK _ _ g2 (Mono.rel_mk (g1.mono hE9.size))
          simp only [Act.put, List.setIfInBounds_toArray, List.set_cons_succ, List.set_cons_zero]
          iterate 2 (apply Mono.step_is; (· refine Mono.obl_mk fun w9 hE9 _ K hK => ?_; (have f9 := hE9.cell hc9); (have fq := hE9.cell hcq); go_wp2_with fail; simp only [Act.put, List.setIfInBounds_toArray, List.set_cons_succ, List.set_cons_zero] at hK; exact hK _ _ (Ext.refl _) (Mono.is_rfl _ _)); simp only [Act.put, List.setIfInBounds_toArray, List.set_cons_succ, List.set_cons_zero])
          refine Mono.step_end fun w9 hE9 hkn => ?_
          obtain ⟨_, hnew, _⟩ := hkn
          simp only [List.drop_succ_cons, List.drop_zero]
          replace hE9 := (Ext.drew _).trans hE9
          obtain ⟨pa, pn, pc, rfl⟩ := Rd.shape hnew.1.1
          have fq := hE9.cell hcq
          have zq := frozen_ext hE9 hcq hfz
          have HE9 := Lib.hid hE9; have HNEW := Lib.hid hnew
          clear hE9 hnew HQ
          go_upto_region 4 with fail
          have hg := HG.out
          have hC : Chg [w.heap.size, w.heap.size + 1, g] w9 (w9.setCell ⟨g, k * 6 + 5, none⟩ (.slice pa pn pc)) := Chg.set g _ _ (by simp)
          have HROW1 := Lib.hid ((HROW.out.ext HE9.out).set (j := 5) (u := .slice pa pn pc) (q' := (x, .slice na nn nc, .slice pa pn pc)) HK.out (by decide) rfl)
          have HLV1 : Hid (∀ p ∈ l3.set k (x, .slice na nn nc, .slice pa pn pc), LVq (w9.setCell ⟨g, k * 6 + 5, none⟩ (.slice pa pn pc)) [w.heap.size, w.heap.size + 1, g] p) := Lib.hid (by
            intro p hp
            rcases List.mem_or_eq_of_mem_set hp with hp | rfl
            · exact ((HLV.out p hp).ext HE9.out).chg hC (fun t ht => ht)
            · have hq := ((HLV.out _ (List.mem_of_getElem? HK.out)).ext HE9.out).chg hC (fun t ht => ht)
              have hr := HNEW.out.1.1.chg hC (fun a n c hv hne hm => by have := HNEW.out.1.2 a n c hv hne; simp at hm; omega)
              have ho : OffL (.slice pa pn pc) _ [w.heap.size, w.heap.size + 1, g] := fun a n c hv hne hm => by have := HNEW.out.1.2 a n c hv hne; simp at hm; omega
              exact ⟨hq.1, hr, ho⟩)
          have HL1 := Lib.hid ((HL.out.trans (show Below w.heap.size w5 w9 from Below.mono HE9.out (by omega))).setCell (show w.heap.size ≤ (⟨g, k * 6 + 5, none⟩ : Addr).block by simp; omega) (.slice pa pn pc))
          have HB1 := Lib.hid ((HB.out.ext HE9.out).other ⟨g, k * 6 + 5, none⟩ (.slice pa pn pc) (by simp; omega))
          have HZ1 := Lib.hid ((HZ.out.ext HE9.out).other ⟨g, k * 6 + 5, none⟩ (.slice pa pn pc) (by simp; omega))
          have hm1 : (l3.set k (x, .slice na nn nc, .slice pa pn pc)).map (·.1) = l3.map (·.1) := by
            rw [List.map_set]
            apply List.ext_getElem?
            intro i
            by_cases hik : k = i
            · subst hik
              rw [List.getElem?_set_self (by have := (List.getElem?_eq_some_iff.1 HK.out).1; simpa using this), List.getElem?_map, HK.out]; rfl
            · rw [List.getElem?_set_ne hik]
          have hk1 : (l3.set k (x, .slice na nn nc, .slice pa pn pc))[k]? = some (x, .slice na nn nc, .slice pa pn pc) := List.getElem?_set_self (List.getElem?_eq_some_iff.1 HK.out).1
          have hgs1 : g < (w9.setCell ⟨g, k * 6 + 5, none⟩ (.slice pa pn pc)).heap.size := HROW1.out.lt
          rw [HMAP.out] at hm1
          have HNU1 : Hid (∀ i q, i < k → (l3.set k (x, .slice na nn nc, .slice pa pn pc))[i]? = some q → NU w.heap.size (w9.setCell ⟨g, k * 6 + 5, none⟩ (.slice pa pn pc)) q.2.1 ∧ NU w.heap.size (w9.setCell ⟨g, k * 6 + 5, none⟩ (.slice pa pn pc)) q.2.2) := Lib.hid (fun i q hi hq => by
            rw [List.getElem?_set_ne (by omega)] at hq
            exact ⟨((HNU.out i q hi hq).1.ext HE9.out).set _ _ _, ((HNU.out i q hi hq).2.ext HE9.out).set _ _ _⟩)
          have HNP := Lib.hid ((HNEW.out.2.mono (show w.heap.size ≤ _ by omega)).set g (k * 6 + 5) (.slice pa pn pc))
          have HNA1 := Lib.hid ((HNA.out.ext HE9.out).set g (k * 6 + 5) (.slice pa pn pc))
          have HMAP1 := Lib.hid hm1; have HK1 := Lib.hid hk1
          clear hg fq zq hcq hc9 hfz hC hm1 hk1 HROW HLV HL HB HZ HMAP HK HE9 HNEW HNU HNA
          generalize w9.setCell ⟨g, k * 6 + 5, none⟩ (.slice pa pn pc) = w6 at *
          have HROW := HROW1; have HLV := HLV1; have HL := HL1; have HB := HB1; have HZ := HZ1; have HMAP := HMAP1; have HK := HK1; have HNU := HNU1; have HNA := HNA1
          clear HROW1 HLV1 HL1 HB1 HZ1 HMAP1 HK1 HNU1 HNA1
          generalize l3.set k (x, .slice na nn nc, .slice pa pn pc) = l4 at *
          have hbe := HBE.out
          go_wp2_with fail
          go_roundg (gk - 1)
          case measure => omega
          case rel => exact ⟨k + 1, l4, by omega, by go_num, HMAP.out, HL.out, HB.out, HZ.out, HROW.out, HLV.out, fun i q hi hq => by
            by_cases hik : i = k
            · subst hik
              rw [HK.out] at hq
              cases hq
              exact ⟨HNA.out, HNP.out⟩
            · exact HNU.out i q (by omega) hq⟩
    · go_upto_region 7 with fail
      have HNU0 : Hid (∀ i q, i < l2.length → l2[i]? = some q → NU w.heap.size wr q.2.1 ∧ NU w.heap.size wr q.2.2) := Lib.hid (fun i q hi hq => HNU.out i q (by omega) hq)
      have HGR := Lib.hid hgr
      clear hlt hk hl2 hgr HNU
      have hms := HMS.out.ext (show Ext w wr from HL.out)
      have hii := HI.out.ext (show Ext w wr from HL.out)
      have HM7 := Lib.hid hms; have HI7 := Lib.hid hii
      have hbm := HBM.out; have hbi := HBI.out
      clear hms hii hc9
      have hc10 := fun o => (HB.out.alloc o).cell 10 rfl
      go_upto_region 8 with ((at_builtin; refine wpList_append_fresh1u rfl (.tmp 42) (.tmp 44) rfl el64 wr.heap.size rfl (.slice a10 n10 c10) (u64s M.members) rfl (HM7.out.ext (Ext.alloc wr _)) (by rw [u64s_len]; omega) (by rw [u64s_len]; unfold maxLen; omega) ?_); intro v7 w7 g1 g2; obtain ⟨d10, m10, e10, rfl⟩ := Rd.shape g1.1.1; have hE7 := (Ext.alloc wr _).trans g2; have k10 := (HB.out.ext hE7).cell 10 rfl; have z10 := (HB.out.ext hE7).free 10; have HE7 := Lib.hid hE7; have HN7 := Lib.hid g1; clear g1 g2 hE7 hc10)
      have hg := HG.out
      have hC7 : Chg [w.heap.size, w.heap.size + 1, g] w7 (w7.setCell ⟨w.heap.size, 10, none⟩ (.slice d10 m10 e10)) := Chg.set w.heap.size 10 _ (by simp)
      have hB7 := (HB.out.ext HE7.out).set 10 (.slice d10 m10 e10)
      simp only [List.setIfInBounds_toArray, List.set_cons_succ, List.set_cons_zero] at hB7
      have HB8 := Lib.hid hB7
      have HZ8 := Lib.hid ((HZ.out.ext HE7.out).other ⟨w.heap.size, 10, none⟩ (.slice d10 m10 e10) (by simp))
      have HR8 := Lib.hid ((HROW.out.ext HE7.out).chg (S := [w.heap.size]) (Chg.set w.heap.size 10 (.slice d10 m10 e10) (by simp)) (by simp; omega))
      have HL8 := Lib.hid (below_set (HL.out.trans (show Below w.heap.size wr w7 from Below.mono HE7.out (by omega))) w.heap.size 10 (.slice d10 m10 e10) (Nat.le_refl _))
      have HLV8 : Hid (∀ q ∈ l2, LVq (w7.setCell ⟨w.heap.size, 10, none⟩ (.slice d10 m10 e10)) [w.heap.size, w.heap.size + 1, g] q) := Lib.hid fun q hq => ((HLV.out q hq).ext HE7.out).chg hC7 (fun t ht => ht)
      have HD8 := Lib.hid (HN7.out.1.1.chg (Chg.set (S := [w.heap.size]) w.heap.size 10 (.slice d10 m10 e10) (by simp)) (fun a n c hv hne hm => by have := HN7.out.1.2 a n c hv hne; simp at this hm; omega))
      have HO8 : Hid (OffL (.slice d10 m10 e10) (u64s M.members) [w.heap.size, w.heap.size + 1]) := Lib.hid (fun a n c hv hne hm => by have := HN7.out.1.2 a n c hv hne; simp at this hm; omega)
      have hs8 : wr.heap.size ≤ (w7.setCell ⟨w.heap.size, 10, none⟩ (.slice d10 m10 e10)).heap.size := by have := HE7.out.size; simpa [World.setCell] using this
      have HNU8 : Hid (∀ i q, i < l2.length → l2[i]? = some q → NU w.heap.size (w7.setCell ⟨w.heap.size, 10, none⟩ (.slice d10 m10 e10)) q.2.1 ∧ NU w.heap.size (w7.setCell ⟨w.heap.size, 10, none⟩ (.slice d10 m10 e10)) q.2.2) := Lib.hid (fun i q hi hq => ⟨((HNU0.out i q hi hq).1.ext HE7.out).set _ _ _, ((HNU0.out i q hi hq).2.ext HE7.out).set _ _ _⟩)
      have HM8 := Lib.hid ((HN7.out.2.mono (show w.heap.size ≤ _ by have := HZ.out.lt; simp; omega)).set w.heap.size 10 (.slice d10 m10 e10))
      clear k10 z10 hC7 hB7 HB HZ HROW HL HLV HN7 hg HNU0
      generalize w7.setCell ⟨w.heap.size, 10, none⟩ (.slice d10 m10 e10) = w8 at *
      have hii := HI.out.ext (show Ext w w8 from HL8.out)
      have HI8 := Lib.hid hii
      clear hii
      have hc11 := fun o => (HB8.out.alloc o).cell 11 rfl
      go_upto_region 9 with ((at_builtin; refine wpList_append_fresh1u rfl (.tmp 47) (.tmp 49) rfl el8 w8.heap.size rfl (.slice a11 n11 c11) (u8s M.image) rfl (HI8.out.ext (Ext.alloc w8 _)) (by rw [u8s_len]; omega) (by rw [u8s_len]; unfold maxLen; omega) ?_); intro v9 w9 g1 g2; obtain ⟨d11, m11, e11, rfl⟩ := Rd.shape g1.1.1; have hE9 := (Ext.alloc w8 _).trans g2; have k11 := (HB8.out.ext hE9).cell 11 rfl; have z11 := (HB8.out.ext hE9).free 11; have HE9 := Lib.hid hE9; have HN9 := Lib.hid g1; clear g1 g2 hE9 hc11)
      have hg := HG.out
      have hC9 : Chg [w.heap.size, w.heap.size + 1, g] w9 (w9.setCell ⟨w.heap.size, 11, none⟩ (.slice d11 m11 e11)) := Chg.set w.heap.size 11 _ (by simp)
      have hB9 := (HB8.out.ext HE9.out).set 11 (.slice d11 m11 e11)
      simp only [List.setIfInBounds_toArray, List.set_cons_succ, List.set_cons_zero] at hB9
      have HB10 := Lib.hid hB9
      have HZ10 := Lib.hid ((HZ8.out.ext HE9.out).other ⟨w.heap.size, 11, none⟩ (.slice d11 m11 e11) (by simp))
      have HR10 := Lib.hid ((HR8.out.ext HE9.out).chg (S := [w.heap.size]) (Chg.set w.heap.size 11 (.slice d11 m11 e11) (by simp)) (by simp; omega))
      have HL10 := Lib.hid (below_set (HL8.out.trans (show Below w.heap.size w8 w9 from Below.mono HE9.out (by omega))) w.heap.size 11 (.slice d11 m11 e11) (Nat.le_refl _))
      have HLV10 : Hid (∀ q ∈ l2, LVq (w9.setCell ⟨w.heap.size, 11, none⟩ (.slice d11 m11 e11)) [w.heap.size, w.heap.size + 1, g] q) := Lib.hid fun q hq => ((HLV8.out q hq).ext HE9.out).chg hC9 (fun t ht => ht)
      have HD10 := Lib.hid ((HD8.out.ext HE9.out).chg (Chg.set (S := [w.heap.size]) w.heap.size 11 (.slice d11 m11 e11) (by simp)) (fun a n c hv hne hm => HO8.out a n c hv hne (by simp at hm; simp [hm])))
      have HF10 := Lib.hid (HN9.out.1.1.chg (Chg.set (S := [w.heap.size]) w.heap.size 11 (.slice d11 m11 e11) (by simp)) (fun a n c hv hne hm => by have := HN9.out.1.2 a n c hv hne; simp at this hm; omega))
      have HP10 : Hid (OffL (.slice d11 m11 e11) (u8s M.image) [w.heap.size, w.heap.size + 1]) := Lib.hid (fun a n c hv hne hm => by have := HN9.out.1.2 a n c hv hne; simp at this hm; omega)
      have HNU10 : Hid (∀ i q, i < l2.length → l2[i]? = some q → NU w.heap.size (w9.setCell ⟨w.heap.size, 11, none⟩ (.slice d11 m11 e11)) q.2.1 ∧ NU w.heap.size (w9.setCell ⟨w.heap.size, 11, none⟩ (.slice d11 m11 e11)) q.2.2) := Lib.hid (fun i q hi hq => ⟨((HNU8.out i q hi hq).1.ext HE9.out).set _ _ _, ((HNU8.out i q hi hq).2.ext HE9.out).set _ _ _⟩)
      have HM10 := Lib.hid ((HM8.out.ext HE9.out).set w.heap.size 11 (.slice d11 m11 e11))
      have HI10 := Lib.hid ((HN9.out.2.mono (show w.heap.size ≤ _ by have := HZ8.out.lt; simp; omega)).set w.heap.size 11 (.slice d11 m11 e11))
      clear k11 z11 hC9 hB9 HB8 HZ8 HR8 HL8 HLV8 HN9 HD8 hg HNU8 HM8
      generalize w9.setCell ⟨w.heap.size, 11, none⟩ (.slice d11 m11 e11) = w10 at *
      go_wp2_with (first | (refine wpList_load_row rfl 34 (.tmp 1) rfl w.heap.size rfl 34 _ (0, 0) _ HB10.out Try.underlying34 rfl (by kernel_rfl) ?_) | (refine wpList_store_row rfl 34 (.tmp 2) (.tmp 52) rfl (w.heap.size + 1) (mCells M (.slice ad M.entries.length c1) (.slice d10 m10 e10) (.slice d11 m11 e11)) rfl rfl 34 _ HZ10.out (mCells_size _ _ _ _) rfl (mCells_one _ _ _ _ _ _ _ _ _ _) ?_))
      have hg := HG.out
      have hc1 := HC1.out; have hm1 := HM1.out
      have hgr := grown_row w10 (w.heap.size + 1) (mCells M (.slice ad M.entries.length c1) (.slice d10 m10 e10) (.slice d11 m11 e11))
      have hCr : Chg [w.heap.size + 1] w10 (w10.setRow (w.heap.size + 1) (mCells M (.slice ad M.entries.length c1) (.slice d10 m10 e10) (.slice d11 m11 e11))) := Chg.some hgr (.inl (by simp))
      have hrow := HR10.out.chg hCr (by simp; omega)
      have hlv : ∀ q ∈ l2, LVq _ [w.heap.size, w.heap.size + 1, g] q := fun q hq => (HLV10.out q hq).chg hCr (fun t ht => by simp at ht; simp [ht])
      have hd := HD10.out.chg hCr (fun a n c hv hne hm => HO8.out a n c hv hne (by simp at hm; simp [hm]))
      have hf := HF10.out.chg hCr (fun a n c hv hne hm => HP10.out a n c hv hne (by simp at hm; simp [hm]))
      have hE : Ext w _ := hCr.below HL10.out HL10.out.size (by intro t ht; simp at ht; omega)
      have hmk := msgR_mk HMAP.out (fun q hq => ⟨(hlv q hq).1.1, (hlv q hq).2.1⟩) (fun i q hi hq => ⟨(HNU10.out i q hi hq).1.row _ _, (HNU10.out i q hi hq).2.row _ _⟩) hrow (by omega) HAD.out hc1 (by unfold maxLen; omega) hd (HM10.out.row _ _) hf (HI10.out.row _ _)
      exact cpn_ret M (w.heap.size + 1) _ _ _ _ _ _ _ _ _ _ _ _ (HZ10.out.row _) rfl ⟨_, rfl, hmk.1, hmk.2, hE⟩
end Go.Proofs.Ytjodgbabfhcilaa
