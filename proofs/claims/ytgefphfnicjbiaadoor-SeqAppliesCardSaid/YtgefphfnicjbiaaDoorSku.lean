/- Layer 25 (seq): tabellionref25.Copy. -/
import Derived.Test.YtgefphfnicjbiaaDoorSkt
import Derived.Test.YtgefphfnicjbiaaDoorBun2
set_option linter.unusedSimpArgs false
set_option linter.unusedVariables false
namespace Go.Proofs.YtgefphfnicjbiaaDoor
open Go Go.RowKit

section
variable {P : Program} {w : World} {ops : Array Oper} {rest : List Oper} {o : Oper} {a : Act} {Q : Exit → Act → World → Prop} {e : TypeId} {z : Value}
/-- 'append(s, x)', x of several cells, which lies in a block. -/
theorem wpList_push_blk (hgd : o.guard = none) (s x : Operand) (t' : TypeId) (ho : o.op = .call { callee := .builtin .append, args := #[s, x], argTypes := #[t', t'] })
    (size bytes : Nat) (ht : P.underlying t' = some (.slice e)) (hi : (P.info? e).map (fun i => (i.zero, i.size, i.bytes)) = some (some z, size, bytes)) (hzs : z.cells.size = size) (hsz : 0 < size)
    (base : Nat) (v : Value) (n : Nat) (xs us : List Value) (hs : a.eval s = v) (hown : w.ownsRow base e size v n xs) (hl : us.length = size) (g : Nat) (hx : a.eval x = .slice (some ⟨g, 0, none⟩) 1 1) (hB : Blk w g us.toArray e) (h1 : ∀ u ∈ us, u.oneCell' = true)
    (hb1 : (n + 1) * bytes ≤ 140737488355328) (hb2 : n + 1 ≤ maxLen) (hbase : base ≤ w.heap.size)
    (h : ∀ v' w', w'.ownsRow base e size v' (n + 1) (xs ++ us) → w.grownBy w' v.ownBlock → wpList P ops Q rest (a.put o.dst v') w') : wpList P ops Q (o :: rest) a w := by
  obtain ⟨i, hi, hz, hsz', hby⟩ := info_parts hi
  exact wpList_append_own w hgd s x t' ho base e i z size bytes ht hi hz hsz' hby hzs hsz v n xs hs hown _ 1 1 us hx (by omega) (fun j u hj => by rw [Addr.add_lit, Nat.zero_add]; exact hB.cell j (by simpa using hj)) h1 (by omega) hb1 hbase fun v' w' g1 g2 _ => h v' w' g1 g2
end
/-- Changes of blocks of books alone. -/
def ABk (T : Nat) (W W' : World) : Prop := Chg [T] W W' ∧ ∃ c, Blk W T c 25
/-- Changes of a row's own block. -/
def ARw (e : TypeId) (v : Value) (W W' : World) : Prop := Chg v.ownBlock.toList W W' ∧ ∀ t ∈ v.ownBlock.toList, ∃ c, Blk W t c e
theorem own_abk {W W' : World} {T B s n : Nat} {e : TypeId} {v : Value} {xs : List Value} (h : W.ownsRow B e s v n xs) (hA : ABk T W W') (he : e ≠ 25) : W'.ownsRow B e s v n xs := by
  obtain ⟨hC, c, hb⟩ := hA
  exact own_off h hC fun t ht hm => by simp at hm; subst hm; exact own_notin h hb he ht
theorem own_arw {W W' : World} {e' : TypeId} {u : Value} {B s n : Nat} {e : TypeId} {v : Value} {xs : List Value} (h : W.ownsRow B e s v n xs) (hA : ARw e' u W W') (he : e ≠ e') : W'.ownsRow B e s v n xs :=
  own_off h hA.1 fun t ht hm => by
    obtain ⟨c, hb⟩ := hA.2 t hm
    exact own_notin h hb he ht
theorem blk_abk {W W' : World} {T t : Nat} {c : Array Value} {e : TypeId} (h : Blk W t c e) (hA : ABk T W W') (he : e ≠ 25) : Blk W' t c e := by
  obtain ⟨hC, c', hb⟩ := hA
  exact h.chg hC (by simp; exact blk_ne h hb he)
theorem blk_arw {W W' : World} {e' : TypeId} {u : Value} {t : Nat} {c : Array Value} {e : TypeId} (h : Blk W t c e) (hA : ARw e' u W W') (he : e ≠ e') : Blk W' t c e :=
  h.chg hA.1 fun hm => by
    obtain ⟨c', hb⟩ := hA.2 t hm
    exact blk_ne h hb he rfl
theorem blk_arw' {W W' : World} {e' : TypeId} {u : Value} {t : Nat} {c : Array Value} {e : TypeId} (h : Blk W t c e) (hA : ARw e' u W W') (hn : t ∉ u.ownBlock.toList) : Blk W' t c e := h.chg hA.1 hn
theorem OwnBk.abk {B T : Nat} {W W' : World} {lv cv : Value} {L : List LQ} {C : List CQ} {b : Bk} (h : OwnBk B W lv cv L C b) (hA : ABk T W W') : OwnBk B W' lv cv L C b :=
  ⟨h.leaves, h.clients, own_abk h.lo hA (by decide), own_abk h.co hA (by decide), fun q hq => own_abk (h.ls q hq) hA (by decide), fun q hq => own_abk (h.cs q hq) hA (by decide), h.ap⟩
/-- Copy's states within one turn. -/
def CpSt (w wr : World) (T1 T2 T3 : Nat) (x1 : Array Value) (lv cv : Value) (L : List LQ) (C : List CQ) (b0 b1 : Bk) : Nat → World → Prop
  | 0, W => Blk W T3 #[lv, cv] 25 ∧ OwnBk w.heap.size W lv cv L C b0 ∧ Ext wr W ∧ Ext w W ∧ Blk W T1 x1 25 ∧ ∃ c : Value × Value, Blk W T2 #[c.1, c.2] 25
  | 1, W => Blk W T3 #[lv, cv] 25 ∧ Ext w W ∧ Blk W T1 x1 25 ∧ ∃ c : Value × Value, Blk W T2 #[c.1, c.2] 25
  | _ + 2, W => Ext w W ∧ (∃ lv' cv' L' C', Blk W T3 #[lv', cv'] 25 ∧ OwnBk w.heap.size W lv' cv' L' C' b1) ∧ Blk W T1 x1 25 ∧ ∃ c : Value × Value, Blk W T2 #[c.1, c.2] 25
theorem CpSt.ext {w wr : World} {T1 T2 T3 : Nat} {x1 : Array Value} {lv cv : Value} {L : List LQ} {C : List CQ} {b0 b1 : Bk} : ∀ (c : Nat) (W W' : World), CpSt w wr T1 T2 T3 x1 lv cv L C b0 b1 c W → Ext W W' → CpSt w wr T1 T2 T3 x1 lv cv L C b0 b1 c W'
  | 0, _, _, ⟨h1, h2, h3, h4, h5, c, h6⟩, hE => ⟨h1.ext hE, h2.ext hE, h3.trans hE, h4.trans hE, h5.ext hE, c, h6.ext hE⟩
  | 1, _, _, ⟨h1, h4, h5, c, h6⟩, hE => ⟨h1.ext hE, h4.trans hE, h5.ext hE, c, h6.ext hE⟩
  | _ + 2, _, _, ⟨h4, ⟨lv', cv', L', C', h1, h2⟩, h5, c, h6⟩, hE => ⟨h4.trans hE, ⟨lv', cv', L', C', h1.ext hE, h2.ext hE⟩, h5.ext hE, c, h6.ext hE⟩
/-- .. and what changes. -/
def CpA (e : TypeId) (u : Value) (T3 : Nat) : Nat → World → World → Prop
  | 0, W, W' => ARw e u W W'
  | _ + 1, W, W' => ABk T3 W W'
theorem own_cpa {W W' : World} {T3 : Nat} {e' : TypeId} {u : Value} {B s n : Nat} {e : TypeId} {v : Value} {xs : List Value} (h : W.ownsRow B e s v n xs) : ∀ {c : Nat}, CpA e' u T3 c W W' → e ≠ e' → e ≠ 25 → W'.ownsRow B e s v n xs
  | 0, hA, h1, _ => own_arw h hA h1
  | _ + 1, hA, _, h2 => own_abk h hA h2
theorem blk_cpa {W W' : World} {T3 : Nat} {e' : TypeId} {u : Value} {t : Nat} {cs : Array Value} {e : TypeId} (h : Blk W t cs e) : ∀ {c : Nat}, CpA e' u T3 c W W' → t ∉ u.ownBlock.toList → e ≠ 25 → Blk W' t cs e
  | 0, hA, h1, _ => blk_arw' h hA h1
  | _ + 1, hA, _, h2 => blk_abk h hA h2
theorem blk_cpa' {W W' : World} {T3 : Nat} {e' : TypeId} {u : Value} {t : Nat} {cs : Array Value} {e : TypeId} (h : Blk W t cs e) : ∀ {c : Nat}, CpA e' u T3 c W W' → e ≠ e' → e ≠ 25 → Blk W' t cs e
  | 0, hA, h1, _ => blk_arw h hA h1
  | _ + 1, hA, _, h2 => blk_abk h hA h2
theorem infoU : (Tryd.prog.info? 5).map (fun i => (i.zero, i.size, i.bytes)) = some (some (.int .u8 0), 1, 1) := by kernel_rfl
theorem OwnBk.client {B B' : Nat} {w w' : World} {lv cv : Value} {L : List LQ} {C : List CQ} {b : Bk} (h : OwnBk B w lv cv L C b) {cv' sv : Value} {c : Cl} (hC : Chg cv.ownBlock.toList w w') (ho : w'.ownsRow B 47 2 cv' (C.length + 1) ((C.map clR).flatten ++ [.int .u64 c.id, sv])) (hs : w'.ownsRow B' 49 2 sv c.slots.length (c.slots.map slR).flatten) (hB : B ≤ B')
    (hap : ∀ q ∈ C, ∀ t ∈ q.2.ownBlock.toList, t < B') : OwnBk B w' lv cv' L (C ++ [(c, sv)]) ⟨b.leaves, b.clients ++ [c]⟩ :=
  ⟨h.leaves, by simp [h.clients], own_off h.lo hC (own_apart h.lo h.co (by decide)), by simpa [clR] using ho, fun q hq => own_off (h.ls q hq) hC (own_apart (h.ls q hq) h.co (by decide)), fun q hq => by
    rcases List.mem_append.1 hq with h1 | h1
    · exact own_off (h.cs q h1) hC (own_apart (h.cs q h1) h.co (by decide))
    · rw [List.mem_singleton.1 h1]; exact own_low hs hB, List.pairwise_append.2 ⟨h.ap, by simp, fun q hq q' hq' t ht ht' => by
      rw [List.mem_singleton.1 hq'] at ht'
      have h1 := hap q hq t ht
      have h2 := (own_type hs t ht').1
      omega⟩⟩
theorem rcopy_ret (b : Nat) (c0 c1 : Value) (F : World) (tmps : Array Value) (R : Ending → World → Prop) (hB : Blk F b #[c0, c1] 25)
    (hz : tmps[2]? = some (.pointer (some ⟨b, 0, none⟩))) (h : R (.returned (.agg #[c0, c1])) F) :
    bodyPost Tryd.prog Tryd.f6 R .ret { tmps := tmps, defers := [] } F := by
  have x0 := hB.cell 0 rfl; have x1 := hB.cell 1 rfl
  simp at x0 x1
  refine bodyPost_ret ?_ rfl h
  simp [results, Tryd.results6, go_sem, hz, x0, x1]
set_option maxRecDepth 100000 in
set_option maxHeartbeats 8000000 in
theorem rcopy_c (v : Value) (b : Bk) (w : World) (h : BookV w v b) (hb : BkBd b) :
    Calls Tryd.prog 6 #[v] w fun e w' => ∃ lv cv L C, e = .returned (.agg #[lv, cv]) ∧ OwnBk w.heap.size w' lv cv L C b ∧ Ext w w' := by
  obtain ⟨lv0, cv0, L0, C0, rfl, hL, hC, h3, h4, h5, h6⟩ := h
  have HB := Lib.hid hb
  have HL := Lib.hid hL; have HC := Lib.hid hC; have H3 := Lib.hid h3; have H4 := Lib.hid h4; have H5 := Lib.hid h5; have H6 := Lib.hid h6
  obtain ⟨N, hn⟩ : ∃ n, n = L0.length := ⟨_, rfl⟩
  obtain ⟨M, hnc⟩ : ∃ nc, nc = C0.length := ⟨_, rfl⟩
  obtain ⟨la, lc, rfl, -, -⟩ := h3.shape
  obtain ⟨ca, cc, rfl, -, -⟩ := h4.shape
  have hnb : N ≤ 1000000 := by have := hb.leaves; rw [← hL, List.length_map] at this; omega
  have hncb : M ≤ 1000000 := by have := hb.clients; rw [← hC, List.length_map] at this; omega
  rw [List.length_map, ← hn] at H3 ⊢
  rw [List.length_map, ← hnc] at H4 ⊢
  have HN := Lib.hid hn; have HNC := Lib.hid hnc
  clear h3 h4 h5 h6 hL hC hb hn hnc
  obtain ⟨w0, hw0⟩ : ∃ w0, w0 = ((w.alloc (.cells #[.slice la N lc, .slice ca M cc] 25)).alloc (.cells #[.slice none 0 0, .slice none 0 0] 25)).alloc (.cells #[.slice none 0 0, .slice none 0 0] 25) := ⟨_, rfl⟩
  have hE0 : Ext w w0 := by rw [hw0]; exact ((Ext.alloc _ _).trans (Ext.alloc _ _)).trans (Ext.alloc _ _)
  obtain ⟨T1, hT1⟩ : ∃ T1, T1 = w.heap.size := ⟨_, rfl⟩
  obtain ⟨T2, hT2⟩ : ∃ T2, T2 = w.heap.size + 1 := ⟨_, rfl⟩
  obtain ⟨T3, hT3⟩ : ∃ T3, T3 = w.heap.size + 1 + 1 := ⟨_, rfl⟩
  have hB1 : Blk w0 T1 #[.slice la N lc, .slice ca M cc] 25 := by rw [hw0, hT1]; exact ((Blk.new _ _ _).alloc _).alloc _
  have hB2 : Blk w0 T2 #[.slice none 0 0, .slice none 0 0] 25 := by
    rw [hw0, hT2]; have := (Blk.new (w.alloc (.cells #[.slice la N lc, .slice ca M cc] 25)) #[.slice none 0 0, .slice none 0 0] 25).alloc (.cells #[.slice none 0 0, .slice none 0 0] 25); simpa using this
  have hB3 : Blk w0 T3 #[.slice none 0 0, .slice none 0 0] 25 := by
    rw [hw0, hT3]; have := Blk.new ((w.alloc (.cells #[.slice la N lc, .slice ca M cc] 25)).alloc (.cells #[.slice none 0 0, .slice none 0 0] 25)) #[.slice none 0 0, .slice none 0 0] 25; simpa using this
  have HE0 := Lib.hid hE0; have HB1 := Lib.hid hB1; have HB2 := Lib.hid hB2; have HB3 := Lib.hid hB3; have HT1 := Lib.hid hT1; have HT2 := Lib.hid hT2; have HT3 := Lib.hid hT3; have HW := Lib.hid hw0
  clear hw0 hE0 hB1 hB2 hB3
  go_enter Tryd.func6, Tryd.ntmps6
  go_wp2_with fail
  rw [← HW.out]
  rw [← hT1, show T1 + 1 = T2 by omega, show T2 + 1 = T3 by omega]
  clear hT1 hT2 hT3 HW
  go_loopg [4] N (fun g v4 wr => ∃ (i : Nat) (lv cv : Value) (L : List LQ) (C : List CQ), v4 = .int .i64 (i : Int) ∧ i + g = N ∧ Blk wr T3 #[lv, cv] 25 ∧ OwnBk w.heap.size wr lv cv L C ⟨b.leaves.take i, []⟩ ∧ Blk wr T1 #[.slice la N lc, .slice ca M cc] 25 ∧ (∃ c : Value × Value, Blk wr T2 #[c.1, c.2] 25) ∧ Ext w wr)
  case atStart => exact ⟨0, _, _, [], [], rfl, by omega, HB3.out, ⟨rfl, rfl, World.ownsRow_nil _ _ _ _, World.ownsRow_nil _ _ _ _, (fun q hq => by cases hq), (fun q hq => by cases hq), List.Pairwise.nil⟩, HB1.out, ⟨(.slice none 0 0, .slice none 0 0), HB2.out⟩, HE0.out⟩
  case round =>
    obtain ⟨i, lv, cv, L, C, rfl, hiN, hb3, hob, hb1, hb2, hE⟩ := hrel
    have HB3i := Lib.hid hb3; have HO := Lib.hid hob; have HB1i := Lib.hid hb1; have HB2i := Lib.hid hb2; have HE := Lib.hid hE
    obtain ⟨xa, xc, rfl, -, -, -⟩ := own_slice hob.lo
    have hLn : L.length = i := by have := congrArg List.length hob.leaves; rw [List.length_map] at this; simp at this; rw [← HL.out, List.length_map] at this; have := HN.out; omega
    have c0 := hb1.cell 0 rfl
    have d0 := hb3.cell 0 rfl
    simp only [List.getElem_toArray, List.getElem_cons_zero, List.getElem_cons_succ] at c0 d0
    have HLN := Lib.hid hLn
    clear hb3 hob hb1 hb2 hE hLn HB1 HB2 HB3 HE0
    by_cases hlt : i < N
    · have hlt' : (i : Int) < (N : Int) := by omega
      obtain ⟨⟨bs, qv⟩, hq⟩ : ∃ q, L0[i]? = some q := ⟨_, List.getElem?_eq_getElem (by have := HN.out; omega)⟩
      have hrd : Rd wr qv (u8s bs) := (H5.out _ (List.mem_of_getElem? hq)).ext HE.out
      have hbl : bs.length ≤ 140737488355328 := HB.out.each bs (by rw [← HL.out]; exact List.mem_map.2 ⟨_, List.mem_of_getElem? hq, rfl⟩)
      have hlf : b.leaves.take (i + 1) = b.leaves.take i ++ [bs] := take_snoc (by rw [← HL.out, List.getElem?_map, hq]; rfl)
      obtain ⟨g, o, rfl, hrow⟩ := H3.out.cells1 hq
      obtain ⟨da, dc, rfl, hd1, hd2, hd3⟩ : ∃ a c, qv = .slice a bs.length c ∧ bs.length ≤ c ∧ c ≤ maxLen ∧ (bs.length = 0 ∨ ∃ ad, a = some ad ∧ ∀ j u, (u8s bs)[j]? = some u → wr.cell? (ad.add j) = some u) := by
        obtain ⟨a, c, h1, h2, h3, h4⟩ := hrd
        rw [u8s_len] at h1 h2
        refine ⟨a, c, h1, h2, h3, ?_⟩
        rcases h4 with h4 | ⟨b', o', h4, h5⟩
        · left; rw [← u8s_len bs, h4]; rfl
        · exact .inr ⟨_, h4, fun j u hj => by rw [Addr.add_lit]; exact h5 j u hj⟩
      have e0 := HE.out.cell hrow
      dsimp only at e0
      have HRD := Lib.hid hd3; have HBL := Lib.hid hbl; have HLF := Lib.hid hlf; have HD2 := Lib.hid hd2
      obtain ⟨LV, hLV⟩ : ∃ v, v = Value.slice xa L.length xc := ⟨_, rfl⟩
      have HLV := Lib.hid hLV
      clear hq hrd hbl hlf hrow hd2 hd3 hLV
      go_upto_region 5 with fail
      apply Mono4.Chain.walkN (fun _ _ => False) 13 ⟨Ext, CpA 27 (.slice xa L.length xc) T3, CpSt w wr T1 T2 T3 #[.slice (some ⟨g, o, none⟩) N lc, .slice ca M cc] (.slice xa L.length xc) cv L C ⟨b.leaves.take i, []⟩ ⟨b.leaves.take (i + 1), []⟩, [10, 12]⟩
        [.is _, .is _, .rel (fun v W => ∃ p, v = .slice (some ⟨p, 0, none⟩) 0 0 ∧ wr.heap.size ≤ p ∧ Blk W p #[] 5), .is _, .is _, .is _, .is _, .is _, .rel (fun v W => W.ownsRow wr.heap.size 5 1 v bs.length (u8s bs)),
          .rel (fun v W => ∃ g' q, v = .slice (some ⟨g', 0, none⟩) 1 1 ∧ Blk W g' #[q] 27 ∧ g' ∉ (Value.slice xa L.length xc).ownBlock.toList ∧ W.ownsRow wr.heap.size 5 1 q bs.length (u8s bs)),
          .rel (fun v W => ∃ L', OwnBk w.heap.size W v cv L' C ⟨b.leaves.take (i + 1), []⟩), .is _, .rel (fun _ _ => True)] (by kernel_rfl)
        CpSt.ext (CpSt.ext (b1 := ⟨b.leaves.take (i + 1), []⟩) 0 _ _ ⟨HB3i.out, HO.out, Ext.refl _, HE.out, HB1i.out, HB2i.out⟩ (Ext.drew _)) (by kernel_rfl) [12] rfl (by kernel_rfl) (fun i hi S hS => (by simp at hi; subst hi; cases hS; exact fun _ _ => trivial)) rfl
        ⟨⟨fun _ _ _ h hE => (by obtain ⟨p, h1, h2, h3⟩ := h; exact ⟨p, h1, h2, h3.ext hE⟩), fun _ _ _ _ _ _ h hA => (by obtain ⟨p, h1, h2, h3⟩ := h; exact ⟨p, h1, h2, blk_cpa' h3 hA (by decide) (by decide)⟩)⟩,
          ⟨fun _ _ _ h hE => own_ext h hE, fun _ _ _ _ _ _ h hA => own_cpa h hA (by decide) (by decide)⟩,
          ⟨fun _ _ _ h hE => (by obtain ⟨g', q, h1, h2, h3, h4⟩ := h; exact ⟨g', q, h1, h2.ext hE, h3, own_ext h4 hE⟩), fun _ _ _ _ _ _ h hA => (by obtain ⟨g', q, h1, h2, h3, h4⟩ := h; exact ⟨g', q, h1, blk_cpa h2 hA h3 (by decide), h3, own_cpa h4 hA (by decide) (by decide)⟩)⟩,
          ⟨fun _ _ _ h hE => (by obtain ⟨L', h⟩ := h; exact ⟨L', h.ext hE⟩), fun c hc _ _ _ _ h hA => (by
            obtain ⟨L', h⟩ := h
            have : 1 ≤ c := Nat.le_trans (Nat.le_of_eq (by kernel_rfl)) hc
            obtain ⟨c', rfl⟩ : ∃ c', c = c' + 1 := ⟨c - 1, by omega⟩
            exact ⟨L', h.abk hA⟩)⟩, ⟨fun _ _ _ _ _ => trivial, fun _ _ _ _ _ _ _ _ => trivial⟩, trivial⟩ (fun _ _ _ h => h.elim)
      focus
        iterate 2 (apply Mono4.Chain.step_is; (· refine Mono4.Chain.obl_at 0 (by kernel_rfl) (by kernel_rfl) (by kernel_rfl) fun w9 hst hkn K hK => ?_; have q0 := hst.2.2.1.cell c0; have q1 := hst.2.2.1.cell e0; have q2 := hst.2.2.1.cell d0; clear hst hkn; go_wp2_with fail; simp only [Act.put, List.setIfInBounds_toArray, List.set_cons_succ, List.set_cons_zero] at hK; exact hK _ _ (Ext.refl _) (Mono4.is_rfl _ _)); simp only [Act.put, List.setIfInBounds_toArray, List.set_cons_succ, List.set_cons_zero])
        refine Mono4.Chain.step_rel (Mono4.Chain.obl_at 0 (by kernel_rfl) (by kernel_rfl) (by kernel_rfl) fun w9 hst hkn K hK => ?_) fun v15 => ?_
        · have HSZ := Lib.hid hst.2.2.1.size
          clear hst hkn
          go_wp2_with fail
          simp only [Act.put, List.setIfInBounds_toArray, List.set_cons_succ, List.set_cons_zero] at hK
          exact hK _ _ (Ext.alloc _ _) (Mono4.rel_mk ⟨_, rfl, HSZ.out, Blk.new _ _ _⟩)
        simp only [Act.put, List.setIfInBounds_toArray, List.set_cons_succ, List.set_cons_zero]
        iterate 5 (apply Mono4.Chain.step_is; (· refine Mono4.Chain.obl_at 0 (by kernel_rfl) (by kernel_rfl) (by kernel_rfl) fun w9 hst hkn K hK => ?_; have q0 := hst.2.2.1.cell c0; have q1 := hst.2.2.1.cell e0; have q2 := hst.2.2.1.cell d0; clear hst hkn; go_wp2_with fail; simp only [Act.put, List.setIfInBounds_toArray, List.set_cons_succ, List.set_cons_zero] at hK; exact hK _ _ (Ext.refl _) (Mono4.is_rfl _ _)); simp only [Act.put, List.setIfInBounds_toArray, List.set_cons_succ, List.set_cons_zero])
        refine Mono4.Chain.step_rel (Mono4.Chain.obl_at 0 (by kernel_rfl) (by kernel_rfl) (by kernel_rfl) fun w9 hst hkn K hK => ?_) fun v21 => ?_
        · obtain ⟨p, rfl, hp, hbp⟩ := hkn.1 (by kernel_rfl)
          have HX9 := Lib.hid hst.2.2.1; have HP := Lib.hid hp; have HBP := Lib.hid hbp
          have HNEW := Lib.hid (show bs.length = 0 ∨ ∃ ad, da = some ad ∧ ∀ j u, (u8s bs)[j]? = some u → w9.cell? (ad.add j) = some u from HRD.out.imp id fun ⟨ad, h1, h2⟩ => ⟨ad, h1, fun j u hj => HX9.out.cell (h2 j u hj)⟩)
          clear hst hkn hp hbp
          go_wp2_with (at_builtin; refine wpList_append_half rfl (.tmp 15) (.tmp 20) _ rfl 5 _ 1 1 Tryd.underlying27 infoU rfl (by omega) p rfl da bs.length dc (u8s bs) rfl (by rw [u8s_len]; omega) HNEW.out (by have := HD2.out; unfold maxLen at *; omega) (by have := HBL.out; omega) ?_; intro v' w8 hh hE8; have HH := Lib.hid (hh.own (base := wr.heap.size) hE8 HBP.out HP.out HX9.out.size (by rw [u8s_len]; omega)); have HE8 := Lib.hid hE8; clear hh hE8)
          simp only [Act.put, List.setIfInBounds_toArray, List.set_cons_succ, List.set_cons_zero] at hK
          exact hK _ _ HE8.out (Mono4.rel_mk HH.out)
        simp only [Act.put, List.setIfInBounds_toArray, List.set_cons_succ, List.set_cons_zero]
        refine Mono4.Chain.step_rel (Mono4.Chain.obl_at 0 (by kernel_rfl) (by kernel_rfl) (by kernel_rfl) fun w9 hst hkn K hK => ?_) fun v22 => ?_
        · have ho := hkn.2.1 (by kernel_rfl)
          obtain ⟨za, zc, rfl, -, -, -⟩ := own_slice ho
          have HOW := Lib.hid ho; have HLT := Lib.hid (own_lt hst.2.1.lo)
          clear hst hkn ho
          go_wp2_with fail
          simp only [Act.put, List.setIfInBounds_toArray, List.set_cons_succ, List.set_cons_zero] at hK
          exact hK _ _ (Ext.alloc _ _) (Mono4.rel_mk ⟨_, _, rfl, Blk.new _ _ _, fun hm => by have := HLT.out _ hm; omega, own_ext HOW.out (Ext.alloc _ _)⟩)
        simp only [Act.put, List.setIfInBounds_toArray, List.set_cons_succ, List.set_cons_zero]
        refine Mono4.Chain.step_rel (Mono4.Chain.obl_loud 0 (by kernel_rfl) (by kernel_rfl) (by kernel_rfl) fun w9 hst hkn K hK => ?_) fun v23 => ?_
        · obtain ⟨g1, q, rfl, hbg, hgn, hoq⟩ := hkn.2.2.1 (by kernel_rfl)
          have HST := Lib.hid hst; have HBG := Lib.hid hbg; have HOQ := Lib.hid hoq
          obtain ⟨za, zc, rfl, -, -, -⟩ := own_slice hoq
          clear hst hkn hbg hgn hoq
          have hLi : L.length = i := HLN.out
          refine wpList_push_blk rfl (.tmp 14) (.tmp 22) _ rfl 1 24 Tryd.underlying22 infoLf rfl (by omega) w.heap.size (.slice xa L.length xc) L.length (L.map (·.2)) [.slice za bs.length zc] rfl HST.out.2.1.lo rfl g1 rfl HBG.out (by simp [Value.oneCell']) (by omega) (by unfold maxLen; omega) HST.out.2.2.2.1.size fun v' w' ho' hg' => ?_
          have HO' := Lib.hid ho'; have HG' := Lib.hid hg'
          clear ho' hg' hLi
          go_wp2_with fail
          simp only [Act.put, List.setIfInBounds_toArray, List.set_cons_succ, List.set_cons_zero] at hK
          have hA : ARw 27 (.slice xa L.length xc) w9 w' := ⟨Chg.grown HG'.out, fun t ht => (own_type HST.out.2.1.lo t ht).2.2⟩
          have hE' : Ext w w' := Chg.below HST.out.2.2.2.1 hA.1 HST.out.2.2.2.1.size (fun t ht => (own_type HST.out.2.1.lo t ht).1)
          refine hK _ _ hA ⟨blk_arw HST.out.1 hA (by decide), hE', blk_arw HST.out.2.2.2.2.1 hA (by decide), ?_⟩ (Mono4.rel_mk ⟨L ++ [(bs, .slice za bs.length zc)], ?_⟩)
          · obtain ⟨c, hc⟩ := HST.out.2.2.2.2.2
            exact ⟨c, blk_arw hc hA (by decide)⟩
          · have := HST.out.2.1.leaf (d := bs) (dv := .slice za bs.length zc) (lv' := v') (Chg.grown HG'.out) (by simpa using HO'.out) (own_low (own_arw HOQ.out hA (by decide)) HE.out.size)
            rwa [← HLF.out] at this
        simp only [Act.put, List.setIfInBounds_toArray, List.set_cons_succ, List.set_cons_zero]
        apply Mono4.Chain.step_is
        · refine Mono4.Chain.obl_quiet (by kernel_rfl) fun w9 c hlo hhi hst hkn K hK => ?_
          clear hlo hhi hst hkn
          go_wp2_with fail
          simp only [Act.put, List.setIfInBounds_toArray, List.set_cons_succ, List.set_cons_zero] at hK
          exact hK _ _ (Ext.refl _) (Mono4.is_rfl _ _)
        simp only [Act.put, List.setIfInBounds_toArray, List.set_cons_succ, List.set_cons_zero]
        refine Mono4.Chain.step_rel (Mono4.Chain.obl_loud 1 (by kernel_rfl) (by kernel_rfl) (by kernel_rfl) fun w9 hst hkn K hK => ?_) fun v0 => ?_
        · obtain ⟨L', hob⟩ := hkn.2.2.2.1 (by kernel_rfl)
          have HST := Lib.hid hst; have HOB := Lib.hid hob
          obtain ⟨za, zc, rfl, -, -, -⟩ := own_slice hob.lo
          have f0 := hst.1.free 0
          have hb9 := hst.1.set 0 (.slice za L'.length zc)
          simp only [List.setIfInBounds_toArray, List.set_cons_zero] at hb9
          have HB9 := Lib.hid hb9
          have k0 := hst.1.cell 0 rfl
          simp only [List.getElem_toArray, List.getElem_cons_zero] at k0
          clear hst hkn hob hb9
          go_wp2_with fail
          simp only [Act.put, List.setIfInBounds_toArray, List.set_cons_succ, List.set_cons_zero] at hK
          have hA : ABk T3 w9 (w9.setCell ⟨T3, 0, none⟩ (.slice za L'.length zc)) := ⟨Chg.set T3 0 _ (by simp), _, HST.out.1⟩
          refine hK undef _ hA ⟨Chg.below HST.out.2.1 hA.1 HST.out.2.1.size (fun t ht => (by simp at ht; subst ht; rw [HT3.out]; omega)), ⟨_, _, L', C, HB9.out, HOB.out.abk hA⟩, HST.out.2.2.1.other ⟨T3, 0, none⟩ _ (by have := HT1.out; have := HT3.out; simp; omega), ?_⟩ trivial
          obtain ⟨c, hc⟩ := HST.out.2.2.2
          exact ⟨c, hc.other ⟨T3, 0, none⟩ _ (by have := HT2.out; have := HT3.out; simp; omega)⟩
        simp only [Act.put, List.setIfInBounds_toArray, List.set_cons_succ, List.set_cons_zero]
        refine Mono4.Chain.step_end fun w10 hst hkn => ?_
        simp only [List.drop_succ_cons, List.drop_zero]
        have HST := Lib.hid hst
        clear hst hkn c0 d0 e0
        go_wp2_with fail
        go_roundg (N - (i + 1))
        case measure => omega
        case rel =>
          obtain ⟨hE, ⟨lv', cv', L', C', h1, h2⟩, h3, h4⟩ := HST.out
          exact ⟨i + 1, lv', cv', L', C', by go_num, by omega, h1, h2, h3, h4, hE⟩
    · obtain rfl : i = N := by omega
      have hlb : b.leaves.take i = b.leaves := List.take_of_length_le (by rw [← HL.out, List.length_map]; have := HN.out; omega)
      rw [hlb] at HO
      clear hlb hlt hiN d0
      go_wp2_with fail
      clear c0
      go_loopg [5] M (fun g v5 wr => ∃ (j : Nat) (lv cv : Value) (L : List LQ) (C : List CQ), v5 = .int .i64 (j : Int) ∧ j + g = M ∧ Blk wr T3 #[lv, cv] 25 ∧ OwnBk w.heap.size wr lv cv L C ⟨b.leaves, b.clients.take j⟩ ∧ Blk wr T1 #[.slice la i lc, .slice ca M cc] 25 ∧ (∃ c : Value × Value, Blk wr T2 #[c.1, c.2] 25) ∧ Ext w wr)
      case atStart => exact ⟨0, _, _, _, _, rfl, by omega, HB3i.out, HO.out, HB1i.out, HB2i.out, HE.out⟩
      case round =>
        clear HB3i HO HB1i HB2i HE HLN
        obtain ⟨j, lv, cv, L, C, rfl, hjM, hb3, hob, hb1, hb2, hE⟩ := hrel
        have HB3i := Lib.hid hb3; have HO := Lib.hid hob; have HB1i := Lib.hid hb1; have HB2i := Lib.hid hb2; have HE := Lib.hid hE
        obtain ⟨xa, xc, rfl, -, -, -⟩ := own_slice hob.co
        have hLn : C.length = j := by have := congrArg List.length hob.clients; rw [List.length_map] at this; simp at this; rw [← HC.out, List.length_map] at this; have := HNC.out; omega
        have c0 := hb1.cell 1 rfl
        have d0 := hb3.cell 1 rfl
        simp only [List.getElem_toArray, List.getElem_cons_zero, List.getElem_cons_succ] at c0 d0
        have HLN := Lib.hid hLn
        clear hb3 hob hb1 hb2 hE hLn
        by_cases hlt : j < M
        · have hlt' : (j : Int) < (M : Int) := by omega
          obtain ⟨⟨cl, qv⟩, hq⟩ : ∃ q, C0[j]? = some q := ⟨_, List.getElem?_eq_getElem (by have := HNC.out; omega)⟩
          have hrd : RowV wr 2 qv (cl.slots.map slR) := RowV.ext (H6.out _ (List.mem_of_getElem? hq)) HE.out
          have hbl : cl.slots.length ≤ 1000000 := HB.out.slots cl (by rw [← HC.out]; exact List.mem_map.2 ⟨_, List.mem_of_getElem? hq, rfl⟩)
          have hlf : b.clients.take (j + 1) = b.clients.take j ++ [cl] := take_snoc (by rw [← HC.out, List.getElem?_map, hq]; rfl)
          obtain ⟨g, o, rfl, hrow⟩ := H4.out.cells2 hq
          have hsl : (cl.slots.map slR).flatten.length = cl.slots.length * 2 := by rw [flat_len (sl_lens _), List.length_map]
          obtain ⟨da, dc, rfl, hd1, hd2, hd3⟩ : ∃ a c, qv = .slice a cl.slots.length c ∧ cl.slots.length ≤ c ∧ c ≤ maxLen ∧ (cl.slots.length = 0 ∨ ∃ ad, a = some ad ∧ ∀ k u, (cl.slots.map slR).flatten[k]? = some u → wr.cell? (ad.add k) = some u) := by
            obtain ⟨a, c, h1, h2, h3, h4⟩ := hrd
            rw [List.length_map] at h1 h2
            refine ⟨a, c, h1, h2, h3, ?_⟩
            rcases h4 with h4 | ⟨b', o', h4, h5⟩
            · left; rw [List.map_eq_nil_iff.1 h4]; rfl
            · refine .inr ⟨_, h4, fun k u hk => ?_⟩
              obtain ⟨i1, r, j1, g1, g2, g3⟩ := flat_row _ k (sl_lens _) hk
              rw [Addr.add_lit, g3, ← Nat.add_assoc]
              exact h5 i1 r g1 j1 u g2
          have e0 := HE.out.cell (hrow 0 _ rfl); have e1 := HE.out.cell (hrow 1 _ rfl)
          rw [Nat.add_zero] at e0
          dsimp only at e0 e1
          have HRD := Lib.hid hd3; have HBL := Lib.hid hbl; have HLF := Lib.hid hlf; have HD2 := Lib.hid hd2; have HSL := Lib.hid hsl
          obtain ⟨cid, csl⟩ := cl
          dsimp only at *
          clear hq hrd hbl hlf hrow hd2 hd3 hsl
          go_upto_region 9 with fail
          apply Mono4.Chain.walkN (fun _ _ => False) 21 ⟨Ext, CpA 47 (.slice xa C.length xc) T3, CpSt w wr T1 T2 T3 #[.slice la i lc, .slice (some ⟨g, o, none⟩) M cc] lv (.slice xa C.length xc) L C ⟨b.leaves, b.clients.take j⟩ ⟨b.leaves, b.clients.take (j + 1)⟩, [18, 20]⟩
            [.is _, .is _, .is _, .is _, .is _, .is _, .is _, .is _, .rel (fun v W => ∃ p, v = .slice (some ⟨p, 0, none⟩) 0 0 ∧ wr.heap.size ≤ p ∧ Blk W p #[] 49), .is _, .is _, .is _, .is _, .is _, .is _,
              .rel (fun v W => W.ownsRow wr.heap.size 49 2 v csl.length (csl.map slR).flatten),
              .rel (fun v W => ∃ sv, v = .agg #[.int .u64 cid, sv] ∧ W.ownsRow wr.heap.size 49 2 sv csl.length (csl.map slR).flatten),
              .rel (fun v W => ∃ g' sv, v = .slice (some ⟨g', 0, none⟩) 1 1 ∧ Blk W g' #[.int .u64 cid, sv] 47 ∧ g' ∉ (Value.slice xa C.length xc).ownBlock.toList ∧ W.ownsRow wr.heap.size 49 2 sv csl.length (csl.map slR).flatten),
              .rel (fun v W => ∃ C', OwnBk w.heap.size W lv v L C' ⟨b.leaves, b.clients.take (j + 1)⟩), .is _, .rel (fun _ _ => True)] (by kernel_rfl)
            CpSt.ext (CpSt.ext (b1 := ⟨b.leaves, b.clients.take (j + 1)⟩) 0 _ _ ⟨HB3i.out, HO.out, Ext.refl _, HE.out, HB1i.out, HB2i.out⟩ (Ext.drew _)) (by kernel_rfl) [20] rfl (by kernel_rfl) (fun i hi S hS => (by simp at hi; subst hi; cases hS; exact fun _ _ => trivial)) rfl
            ⟨⟨fun _ _ _ h hE => (by obtain ⟨p, h1, h2, h3⟩ := h; exact ⟨p, h1, h2, h3.ext hE⟩), fun _ _ _ _ _ _ h hA => (by obtain ⟨p, h1, h2, h3⟩ := h; exact ⟨p, h1, h2, blk_cpa' h3 hA (by decide) (by decide)⟩)⟩,
              ⟨fun _ _ _ h hE => own_ext h hE, fun _ _ _ _ _ _ h hA => own_cpa h hA (by decide) (by decide)⟩,
              ⟨fun _ _ _ h hE => (by obtain ⟨sv, h1, h2⟩ := h; exact ⟨sv, h1, own_ext h2 hE⟩), fun _ _ _ _ _ _ h hA => (by obtain ⟨sv, h1, h2⟩ := h; exact ⟨sv, h1, own_cpa h2 hA (by decide) (by decide)⟩)⟩,
              ⟨fun _ _ _ h hE => (by obtain ⟨g', q, h1, h2, h3, h4⟩ := h; exact ⟨g', q, h1, h2.ext hE, h3, own_ext h4 hE⟩), fun _ _ _ _ _ _ h hA => (by obtain ⟨g', q, h1, h2, h3, h4⟩ := h; exact ⟨g', q, h1, blk_cpa h2 hA h3 (by decide), h3, own_cpa h4 hA (by decide) (by decide)⟩)⟩,
              ⟨fun _ _ _ h hE => (by obtain ⟨L', h⟩ := h; exact ⟨L', h.ext hE⟩), fun c hc _ _ _ _ h hA => (by
                obtain ⟨L', h⟩ := h
                have : 1 ≤ c := Nat.le_trans (Nat.le_of_eq (by kernel_rfl)) hc
                obtain ⟨c', rfl⟩ : ∃ c', c = c' + 1 := ⟨c - 1, by omega⟩
                exact ⟨L', h.abk hA⟩)⟩, ⟨fun _ _ _ _ _ => trivial, fun _ _ _ _ _ _ _ _ => trivial⟩, trivial⟩ (fun _ _ _ h => h.elim)
          focus
            iterate 8 (apply Mono4.Chain.step_is; (· refine Mono4.Chain.obl_at 0 (by kernel_rfl) (by kernel_rfl) (by kernel_rfl) fun w9 hst hkn K hK => ?_; have q0 := hst.2.2.1.cell c0; have q1 := hst.2.2.1.cell e0; have q3 := hst.2.2.1.cell e1; have q2 := hst.2.2.1.cell d0; clear hst hkn; go_wp2_with fail; simp only [Act.put, List.setIfInBounds_toArray, List.set_cons_succ, List.set_cons_zero] at hK; exact hK _ _ (Ext.refl _) (Mono4.is_rfl _ _)); simp only [Act.put, List.setIfInBounds_toArray, List.set_cons_succ, List.set_cons_zero])
            refine Mono4.Chain.step_rel (Mono4.Chain.obl_at 0 (by kernel_rfl) (by kernel_rfl) (by kernel_rfl) fun w9 hst hkn K hK => ?_) fun v40 => ?_
            · have HSZ := Lib.hid hst.2.2.1.size
              clear hst hkn
              go_wp2_with fail
              simp only [Act.put, List.setIfInBounds_toArray, List.set_cons_succ, List.set_cons_zero] at hK
              exact hK _ _ (Ext.alloc _ _) (Mono4.rel_mk ⟨_, rfl, HSZ.out, Blk.new _ _ _⟩)
            simp only [Act.put, List.setIfInBounds_toArray, List.set_cons_succ, List.set_cons_zero]
            iterate 6 (apply Mono4.Chain.step_is; (· refine Mono4.Chain.obl_at 0 (by kernel_rfl) (by kernel_rfl) (by kernel_rfl) fun w9 hst hkn K hK => ?_; have q0 := hst.2.2.1.cell c0; have q1 := hst.2.2.1.cell e0; have q3 := hst.2.2.1.cell e1; have q2 := hst.2.2.1.cell d0; clear hst hkn; go_wp2_with fail; simp only [Act.put, List.setIfInBounds_toArray, List.set_cons_succ, List.set_cons_zero] at hK; exact hK _ _ (Ext.refl _) (Mono4.is_rfl _ _)); simp only [Act.put, List.setIfInBounds_toArray, List.set_cons_succ, List.set_cons_zero])
            refine Mono4.Chain.step_rel (Mono4.Chain.obl_at 0 (by kernel_rfl) (by kernel_rfl) (by kernel_rfl) fun w9 hst hkn K hK => ?_) fun v47 => ?_
            · obtain ⟨p, rfl, hp, hbp⟩ := hkn.1 (by kernel_rfl)
              have HX9 := Lib.hid hst.2.2.1; have HP := Lib.hid hp; have HBP := Lib.hid hbp
              have HNEW := Lib.hid (show csl.length = 0 ∨ ∃ ad, da = some ad ∧ ∀ k u, (csl.map slR).flatten[k]? = some u → w9.cell? (ad.add k) = some u from HRD.out.imp id fun ⟨ad, h1, h2⟩ => ⟨ad, h1, fun k u hk => HX9.out.cell (h2 k u hk)⟩)
              clear hst hkn hp hbp
              go_wp2_with (at_builtin; refine wpList_append_half rfl (.tmp 40) (.tmp 46) _ rfl 49 _ 2 16 Tryd.underlying45 infoSl rfl (by omega) p rfl da csl.length dc (csl.map slR).flatten rfl HSL.out HNEW.out (by have := HD2.out; unfold maxLen at *; omega) (by have := HBL.out; omega) ?_; intro v' w8 hh hE8; have HH := Lib.hid (hh.own (base := wr.heap.size) hE8 HBP.out HP.out HX9.out.size HSL.out); have HE8 := Lib.hid hE8; clear hh hE8)
              simp only [Act.put, List.setIfInBounds_toArray, List.set_cons_succ, List.set_cons_zero] at hK
              exact hK _ _ HE8.out (Mono4.rel_mk HH.out)
            simp only [Act.put, List.setIfInBounds_toArray, List.set_cons_succ, List.set_cons_zero]
            refine Mono4.Chain.step_rel (Mono4.Chain.obl_at 0 (by kernel_rfl) (by kernel_rfl) (by kernel_rfl) fun w9 hst hkn K hK => ?_) fun v48 => ?_
            · have ho := hkn.2.1 (by kernel_rfl)
              obtain ⟨za, zc, rfl, -, -, -⟩ := own_slice ho
              have HOW := Lib.hid ho
              clear hst hkn ho
              go_wp2_with fail
              simp only [Act.put, List.setIfInBounds_toArray, List.set_cons_succ, List.set_cons_zero] at hK
              exact hK _ _ (Ext.refl _) (Mono4.rel_mk ⟨_, rfl, HOW.out⟩)
            simp only [Act.put, List.setIfInBounds_toArray, List.set_cons_succ, List.set_cons_zero]
            refine Mono4.Chain.step_rel (Mono4.Chain.obl_at 0 (by kernel_rfl) (by kernel_rfl) (by kernel_rfl) fun w9 hst hkn K hK => ?_) fun v49 => ?_
            · obtain ⟨sv, rfl, ho⟩ := hkn.2.2.1 (by kernel_rfl)
              obtain ⟨za, zc, rfl, -, -, -⟩ := own_slice ho
              have HOW := Lib.hid ho; have HLT := Lib.hid (own_lt hst.2.1.co)
              clear hst hkn ho
              go_wp2_with fail
              simp only [Act.put, List.setIfInBounds_toArray, List.set_cons_succ, List.set_cons_zero] at hK
              exact hK _ _ (Ext.alloc _ _) (Mono4.rel_mk ⟨_, _, rfl, Blk.new _ _ _, fun hm => by have := HLT.out _ hm; omega, own_ext HOW.out (Ext.alloc _ _)⟩)
            simp only [Act.put, List.setIfInBounds_toArray, List.set_cons_succ, List.set_cons_zero]
            refine Mono4.Chain.step_rel (Mono4.Chain.obl_loud 0 (by kernel_rfl) (by kernel_rfl) (by kernel_rfl) fun w9 hst hkn K hK => ?_) fun v50 => ?_
            · obtain ⟨g1, sv, rfl, hbg, hgn, hoq⟩ := hkn.2.2.2.1 (by kernel_rfl)
              obtain ⟨za, zc, rfl, -, -, -⟩ := own_slice hoq
              have HST := Lib.hid hst; have HBG := Lib.hid hbg; have HOQ := Lib.hid hoq
              clear hst hkn hbg hgn hoq
              have hLi : C.length = j := HLN.out
              refine wpList_push_blk rfl (.tmp 33) (.tmp 49) _ rfl 2 32 Tryd.underlying23 infoCl rfl (by omega) w.heap.size (.slice xa C.length xc) C.length (C.map clR).flatten [.int .u64 cid, .slice za csl.length zc] rfl HST.out.2.1.co rfl g1 rfl HBG.out (by simp [Value.oneCell']) (by omega) (by unfold maxLen; omega) HST.out.2.2.2.1.size fun v' w' ho' hg' => ?_
              have HO' := Lib.hid ho'; have HG' := Lib.hid hg'
              clear ho' hg' hLi
              go_wp2_with fail
              simp only [Act.put, List.setIfInBounds_toArray, List.set_cons_succ, List.set_cons_zero] at hK
              have hA : ARw 47 (.slice xa C.length xc) w9 w' := ⟨Chg.grown HG'.out, fun t ht => (own_type HST.out.2.1.co t ht).2.2⟩
              have hE' : Ext w w' := Chg.below HST.out.2.2.2.1 hA.1 HST.out.2.2.2.1.size (fun t ht => (own_type HST.out.2.1.co t ht).1)
              refine hK _ _ hA ⟨blk_arw HST.out.1 hA (by decide), hE', blk_arw HST.out.2.2.2.2.1 hA (by decide), ?_⟩ (Mono4.rel_mk ⟨C ++ [(⟨cid, csl⟩, .slice za csl.length zc)], ?_⟩)
              · obtain ⟨c, hc⟩ := HST.out.2.2.2.2.2
                exact ⟨c, blk_arw hc hA (by decide)⟩
              · have := HST.out.2.1.client (c := ⟨cid, csl⟩) (sv := .slice za csl.length zc) (cv' := v') (B' := wr.heap.size) (Chg.grown HG'.out) HO'.out (own_arw HOQ.out hA (by decide)) HE.out.size (fun q hq t ht => own_lt (HO.out.cs q hq) t ht)
                rwa [← HLF.out] at this
            simp only [Act.put, List.setIfInBounds_toArray, List.set_cons_succ, List.set_cons_zero]
            apply Mono4.Chain.step_is
            · refine Mono4.Chain.obl_quiet (by kernel_rfl) fun w9 c hlo hhi hst hkn K hK => ?_
              clear hlo hhi hst hkn
              go_wp2_with fail
              simp only [Act.put, List.setIfInBounds_toArray, List.set_cons_succ, List.set_cons_zero] at hK
              exact hK _ _ (Ext.refl _) (Mono4.is_rfl _ _)
            simp only [Act.put, List.setIfInBounds_toArray, List.set_cons_succ, List.set_cons_zero]
            refine Mono4.Chain.step_rel (Mono4.Chain.obl_loud 1 (by kernel_rfl) (by kernel_rfl) (by kernel_rfl) fun w9 hst hkn K hK => ?_) fun v0 => ?_
            · obtain ⟨C', hob⟩ := hkn.2.2.2.2.1 (by kernel_rfl)
              have HST := Lib.hid hst; have HOB := Lib.hid hob
              obtain ⟨za, zc, rfl, -, -, -⟩ := own_slice hob.co
              have f0 := hst.1.free 1
              have hb9 := hst.1.set 1 (.slice za C'.length zc)
              simp only [List.setIfInBounds_toArray, List.set_cons_zero, List.set_cons_succ] at hb9
              have HB9 := Lib.hid hb9
              have k0 := hst.1.cell 1 rfl
              simp only [List.getElem_toArray, List.getElem_cons_zero, List.getElem_cons_succ] at k0
              clear hst hkn hob hb9
              go_wp2_with fail
              simp only [Act.put, List.setIfInBounds_toArray, List.set_cons_succ, List.set_cons_zero] at hK
              have hA : ABk T3 w9 (w9.setCell ⟨T3, 1, none⟩ (.slice za C'.length zc)) := ⟨Chg.set T3 1 _ (by simp), _, HST.out.1⟩
              refine hK undef _ hA ⟨Chg.below HST.out.2.1 hA.1 HST.out.2.1.size (fun t ht => (by simp at ht; subst ht; rw [HT3.out]; omega)), ⟨_, _, L, C', HB9.out, HOB.out.abk hA⟩, HST.out.2.2.1.other ⟨T3, 1, none⟩ _ (by have := HT1.out; have := HT3.out; simp; omega), ?_⟩ trivial
              obtain ⟨c, hc⟩ := HST.out.2.2.2
              exact ⟨c, hc.other ⟨T3, 1, none⟩ _ (by have := HT2.out; have := HT3.out; simp; omega)⟩
            simp only [Act.put, List.setIfInBounds_toArray, List.set_cons_succ, List.set_cons_zero]
            refine Mono4.Chain.step_end fun w10 hst hkn => ?_
            simp only [List.drop_succ_cons, List.drop_zero]
            have HST := Lib.hid hst
            clear hst hkn c0 d0 e0 e1
            go_wp2_with fail
            go_roundg (M - (j + 1))
            case measure => omega
            case rel =>
              obtain ⟨hE, ⟨lv', cv', L', C', h1, h2⟩, h3, h4⟩ := HST.out
              exact ⟨j + 1, lv', cv', L', C', by go_num, by omega, h1, h2, h3, h4, hE⟩
        · obtain rfl : j = M := by omega
          have hlb : b.clients.take j = b.clients := List.take_of_length_le (by rw [← HC.out, List.length_map]; have := HNC.out; omega)
          rw [hlb] at HO
          clear hlb hlt hjM d0
          obtain ⟨cc2, hb2⟩ := HB2i.out
          have HB2j := Lib.hid hb2
          obtain ⟨xb, nb, cb, rfl⟩ : ∃ a n c, lv = .slice a n c := by
            obtain ⟨a, c, h, -⟩ := own_slice HO.out.lo
            exact ⟨a, _, c, h⟩
          clear hb2
          go_wp2_with (first | (refine wpList_load_row rfl 25 (.tmp 3) rfl T3 rfl 25 _ (0, 0) _ HB3i.out Tryd.underlying25 rfl (by kernel_rfl) ?_) | (refine wpList_store_row rfl 25 (.tmp 2) (.tmp 52) rfl T2 #[.slice xb nb cb, .slice xa C.length xc] rfl rfl 25 _ HB2j.out (book_size _ _) rfl (by simp [Value.oneCell']) ?_))
          have hA : ABk T2 wr (wr.setRow T2 #[.slice xb nb cb, .slice xa C.length xc]) := ⟨Chg.some (grown_rowS wr T2 _) (.inl (by simp)), _, HB2j.out⟩
          refine rcopy_ret T2 _ _ _ _ _ (setRow_heap wr T2 _ _ _ (0, 0) HB2j.out) rfl ⟨_, _, L, C, rfl, HO.out.abk hA, Chg.toExt (Chg.trans (Chg.ext HE.out : Chg [T2] w wr) hA.1) (fun t ht => (by simp at ht; have := HT2.out; omega))⟩
end Go.Proofs.YtgefphfnicjbiaaDoor
