/- disk: Crash. -/
import Derived.Test.YtafjjladnghjbaaGreatDoorDsk9
import Derived.Deep.CutBlock
namespace Go.Proofs.YtafjjladnghjbaaGreatDoor
open Go Go.RowKit Go.Maps

def keptD : List Dd → List Bool → List Dd
  | o :: r, k :: ks => if k then o :: keptD r ks else keptD r ks
  | _, _ => []
def tearD (torn : Int) (o : Dd) : Dd := { o with b := o.b.take (max 0 (min torn o.b.length)).toNat }
def tornD (torn : Int) : List Dd → List Dd
  | [] => []
  | [o] => [tearD torn o]
  | o :: p :: r => o :: tornD torn (p :: r)
def doAll (l : List Dd) (L : FL) : FL := l.foldl (fun L o => doF o L) L
def crashS (S : Dk) (keep : List Bool) (torn : Int) : Dk :=
  { S with now := doAll (tornD torn (keptD S.waits keep)) S.sure, sure := doAll (tornD torn (keptD S.waits keep)) S.sure, waits := [], off := false, fuse := -1 }
theorem keptD_take (ws : List Dd) (keep : List Bool) (k : Nat) {o : Dd} (ho : ws[k]? = some o) : keptD (ws.take (k + 1)) keep = keptD (ws.take k) keep ++ (if keep[k]? = some true then [o] else []) := by
  induction ws generalizing keep k with
  | nil => simp at ho
  | cons x r ih =>
    cases k with
    | zero =>
      simp at ho; subst ho
      cases keep with
      | nil => simp [keptD]
      | cons b bs => cases b <;> simp [keptD]
    | succ k =>
      cases keep with
      | nil => simp [keptD]
      | cons b bs =>
        have := ih bs k (by simpa using ho)
        cases b <;> simp [keptD, this]
theorem keptD_mem {ws : List Dd} {keep : List Bool} {o : Dd} (h : o ∈ keptD ws keep) : o ∈ ws := by
  induction ws generalizing keep with
  | nil => simp [keptD] at h
  | cons x r ih =>
    cases keep with
    | nil => simp [keptD] at h
    | cons b bs =>
      unfold keptD at h
      split at h
      · rcases List.mem_cons.1 h with h | h
        · simp [h]
        · exact List.mem_cons_of_mem _ (ih h)
      · exact List.mem_cons_of_mem _ (ih h)
theorem keptD_len (ws : List Dd) (keep : List Bool) : (keptD ws keep).length ≤ ws.length := by
  induction ws generalizing keep with
  | nil => simp [keptD]
  | cons x r ih =>
    cases keep with
    | nil => simp [keptD]
    | cons b bs => have := ih bs; unfold keptD; split <;> simp <;> omega
/-- A deed in a row. -/
theorem own_deed {w w0 : World} {A : List Nat} {base : Nat} {a : Option Addr} {n c : Nat} {cs : List Value} {xs : List Dd} (h : w.ownsRow base 92 5 (.slice a n c) n cs) (hd : DDs w0 A xs cs) {i : Nat} {o : Dd} (hi : xs[i]? = some o) :
    ∃ g bv, a = some ⟨g, 0, none⟩ ∧ g < w.heap.size ∧ Rd w0 bv (u8s o.b) ∧ OffL bv (u8s o.b) A ∧ w.cell? ⟨g, i * 5, none⟩ = some (.int .i64 o.kind) ∧ w.cell? ⟨g, i * 5 + 1, none⟩ = some (.string o.name) ∧ w.cell? ⟨g, i * 5 + 2, none⟩ = some (.string o.to) ∧
      w.cell? ⟨g, i * 5 + 3, none⟩ = some (.int .i64 o.n) ∧ w.cell? ⟨g, i * 5 + 4, none⟩ = some bv := by
  obtain ⟨bv, h1, h2, h3⟩ := hd.get hi
  have hl := hd.len
  have hi' := (List.getElem?_eq_some_iff.1 hi).1
  rcases h.2 with ⟨h4, h5⟩ | ⟨g, cap, cur, hv, hg, hh, e1, e2, e3, e4⟩
  · have := h.1; omega
  · injection hv with ha _ _
    have hc : ∀ j u, cs[j]? = some u → w.cell? ⟨g, j, none⟩ = some u := fun j u hj => by
      have := h.cells (g := g) (by rw [ha]; rfl) j u hj
      rwa [Addr.add_lit, Nat.zero_add] at this
    exact ⟨g, bv, ha, (Array.getElem?_eq_some_iff.1 hh).1, h1, h2, hc _ _ (by simpa using h3 0 _ rfl), hc _ _ (h3 1 _ rfl), hc _ _ (h3 2 _ rfl), hc _ _ (h3 3 _ rfl), hc _ _ (h3 4 _ rfl)⟩
theorem tornD_last (torn : Int) (o : Dd) : ∀ l : List Dd, tornD torn (l ++ [o]) = l ++ [tearD torn o]
  | [] => rfl
  | [x] => rfl
  | x :: y :: r => by
    have := tornD_last torn o (y :: r)
    simp only [List.cons_append] at this ⊢
    unfold tornD; rw [this]
theorem DDs.last {w : World} {A : List Nat} {o : Dd} : ∀ {l : List Dd} {cs : List Value}, DDs w A (l ++ [o]) cs → ∃ cs0 bv, cs = cs0 ++ ddC o bv ∧ DDs w A l cs0 ∧ Rd w bv (u8s o.b) ∧ OffL bv (u8s o.b) A
  | [], cs, ⟨bv, rest, e, h1, h2, h3⟩ => by cases h3; exact ⟨[], bv, by simpa using e, rfl, h1, h2⟩
  | x :: r, cs, ⟨bv, rest, e, h1, h2, h3⟩ => by
    obtain ⟨cs0, bv', e', k1, k2, k3⟩ := h3.last
    exact ⟨ddC x bv ++ cs0, bv', by rw [e, e', List.append_assoc], ⟨bv, cs0, rfl, h1, h2, k1⟩, k2, k3⟩
theorem own_set {w : World} {base : Nat} {e : TypeId} {size g n c j : Nat} {cs : List Value} (h : w.ownsRow base e size (.slice (some ⟨g, 0, none⟩) n c) n cs) (u : Value) : (w.setCell ⟨g, j, none⟩ u).ownsRow base e size (.slice (some ⟨g, 0, none⟩) n c) n (cs.set j u) := by
  refine ⟨by rw [List.length_set]; exact h.1, ?_⟩
  rcases h.2 with ⟨h1, _⟩ | ⟨g', cap, cur, hv, hg, hh, e1, e2, e3, e4⟩
  · cases h1
  · cases hv
    refine .inr ⟨g, c, cur.setIfInBounds j u, rfl, hg, ?_, e1, e2, by simpa using e3, ?_⟩
    · have hb : Blk w g cur e := hh
      exact hb.set j u
    · rw [← e4, Array.toList_setIfInBounds, List.take_set]
theorem tornD_len (torn : Int) : ∀ l : List Dd, (tornD torn l).length = l.length
  | [] => rfl
  | [x] => rfl
  | x :: y :: r => by have := tornD_len torn (y :: r); simp only [tornD, List.length_cons] at this ⊢; omega
theorem tornD_ok {M : Nat} (torn : Int) : ∀ {l : List Dd}, (∀ o ∈ l, DdOk M o) → ∀ o ∈ tornD torn l, DdOk M o
  | [], _, o, ho => by simp [tornD] at ho
  | [x], h, o, ho => by
    simp [tornD] at ho; subst ho
    obtain ⟨a1, a2, a3, a4, a5, a6⟩ := h x (by simp)
    exact ⟨a1, a2, a3, fun hk => by have := a4 hk; simp only [tearD, List.length_take]; omega, a5, fun z hz => a6 z (List.mem_of_mem_take hz)⟩
  | x :: y :: r, h, o, ho => by
    simp only [tornD, List.mem_cons] at ho
    rcases ho with rfl | ho
    · exact h _ (by simp)
    · exact tornD_ok torn (l := y :: r) (fun o' ho' => h o' (List.mem_cons_of_mem _ ho')) o ho
theorem LenLe.doAll {M : Nat} : ∀ {l : List Dd} {L : FL}, LenLe M L → (∀ o ∈ l, DdOk M o) → LenLe M (doAll l L)
  | [], _, h, _ => h
  | o :: r, _, h, ho => LenLe.doAll (l := r) (h.do (ho o (by simp))) fun o' h' => ho o' (List.mem_cons_of_mem _ h')
theorem doAll_take {l : List Dd} {k : Nat} {o : Dd} (L : FL) (h : l[k]? = some o) : doAll (l.take (k + 1)) L = doF o (doAll (l.take k) L) := by
  unfold doAll
  rw [List.take_add_one, h, List.foldl_append]; rfl
/-- The sure files, opened. -/
theorem DkS.openSure {w : World} {d n M : Nat} {O F : List Nat} {S : Dk} (h : DkS w d n M O F S) : ∃ bn bs wv, Blk w d #[.map (some bn), .map (some bs), wv, .int .i64 S.room, .int .i64 S.fuse, .bool S.off] 75 ∧
    Files w bs n (wv.ownBlock.toList ++ F) S.sure ∧ (∀ t ∈ wv.ownBlock.toList ++ F, t < w.heap.size) ∧ d ≠ bs ∧
    ∀ w' n' L', n ≤ n' → Files w' bs n' (wv.ownBlock.toList ++ F) L' → Chg [bs] w w' → LenLe M L' → DkS w' d n' M O F { S with sure := L' } ∧ DkTo O w w' O := by
  obtain ⟨⟨bn, bs, wv, cs, h1, h2, h3, h4, h5, h6, h7, h8, h9, h10, h11, h12⟩, k1, k2, k3, k4, k5, k6, k7, k8, kF⟩ := h
  refine ⟨bn, bs, wv, h1, h3, fun t ht => (List.mem_append.1 ht).elim (fun ht => (h10 t ht).2.2.2.2) (kF t), h12, fun w' n' L' hn hf hg hL => ⟨⟨⟨bn, bs, wv, cs, h1.chg hg (by simp; exact h12), (h2.mono hn).chg hg (by simp; exact h6) ?_, hf, own_chgL h4 hg (fun t ht => by simp; exact (h10 t ht).2.2.2.1), h5.chg hg ?_, h6, h7, h8, h9, fun t ht => ?_, h11, h12⟩, k1, hL, k3, fun t ht => Nat.lt_of_lt_of_le (k4 t ht) hg.size, k5, k6, k7, k8, fun t ht => Nat.lt_of_lt_of_le (kF t ht) hg.size⟩, hg.mono (fun t ht => by simp at ht; subst ht; exact .inl h9), fun t ht => .inl ht, k4⟩⟩
  · intro t ht; simp at ht; subst ht; exact .inl h3.noB
  · intro t ht; simp at ht; subst ht; exact .inl h3.noB
  · obtain ⟨q1, q2, q3, q4, q5⟩ := h10 t ht; exact ⟨q1, q2, q3, q4, Nat.lt_of_lt_of_le q5 hg.size⟩
theorem own_chgB {S : List Nat} {w w' : World} {base : Nat} {e : TypeId} {size : Nat} {v : Value} {n : Nat} {xs : List Value} (h : w.ownsRow base e size v n xs) (hg : Chg S w w') (hS : ∀ t ∈ S, t < base ∨ w.heap.size ≤ t) : w'.ownsRow base e size v n xs := by
  obtain ⟨h1, h2⟩ := h
  refine ⟨h1, ?_⟩
  rcases h2 with h2 | ⟨g, cap, cur, hv, hg', hh, r⟩
  · exact .inl h2
  · have hl := (Array.getElem?_eq_some_iff.1 hh).1
    exact .inr ⟨g, cap, cur, hv, hg', (hg.block g hl fun hm => by rcases hS _ hm with h3 | h3 <;> omega).trans hh, r⟩
theorem crash_nil (kv : Value) (torn : Int) (w : World) : Calls Tryz.prog 22 #[.pointer none, kv, .int .i64 torn] w fun e w' => e = .returned (.tuple #[]) ∧ w' = w := by
  go_enter Tryz.func22, Tryz.ntmps22
  go_wp2_with fail
  exact bodyPost_ret (results_none Tryz.results22 _ _ _) rfl ⟨rfl, rfl⟩
set_option maxRecDepth 100000 in
set_option maxHeartbeats 4000000 in
theorem crash_c (d n M : Nat) (O F : List Nat) (S : Dk) (keep : List Bool) (torn : Int) (kv : Value) (w : World) (h : DkS w d n M O F S) (hn : n + S.waits.length < 1000000000) (hM : M ≤ 70368744177664) (hkv : Rd w kv (keep.map Value.bool)) (ht0 : -9223372036854775808 ≤ torn) (ht1 : torn ≤ 9223372036854775807) :
    Calls Tryz.prog 22 #[dptr d, kv, .int .i64 torn] w fun e w' => e = .returned (.tuple #[]) ∧ ∃ O', DkS w' d (n + S.waits.length) M O' F (crashS S keep torn) ∧ DkTo O w w' O' := by
  obtain ⟨X, hX⟩ : ∃ X, X = crashS S keep torn := ⟨_, rfl⟩
  rw [← hX]
  have hSure := h.openSure
  obtain ⟨bn, bs, wv, cells, hB, hown, hdd⟩ : ∃ bn bs wv cs, Blk w d #[.map (some bn), .map (some bs), wv, .int .i64 S.room, .int .i64 S.fuse, .bool S.off] 75 ∧ w.ownsRow 0 92 5 wv S.waits.length cs ∧ DDs w (wv.ownBlock.toList ++ F) S.waits cs := by
    obtain ⟨⟨bn, bs, wv, cs, h1, h2, h3, h4, h5, _⟩, _⟩ := h
    exact ⟨bn, bs, wv, cs, h1, h4, h5⟩
  obtain ⟨bs0, A, hFs, hAl, hdb, hcl⟩ : ∃ bs0 A, Files w bs0 n A S.sure ∧ (∀ t ∈ A, t < w.heap.size) ∧ (d ≠ bs0 ∧ w.cell? ⟨d, 1, none⟩ = some (.map (some bs0))) ∧ ∀ w' n' L', n ≤ n' → Files w' bs0 n' A L' → Chg [bs0] w w' → LenLe M L' → DkS w' d n' M O F { S with sure := L' } ∧ DkTo O w w' O := by
    obtain ⟨bn', bs', wv', g1, g2, g3, g4, g5⟩ := hSure
    exact ⟨bs', _, g2, g3, ⟨g4, g1.cell 1 rfl⟩, g5⟩
  have HFS := Lib.hid hFs; have HAL := Lib.hid hAl; have HDB := Lib.hid hdb; have HCL := Lib.hid hcl
  clear hFs hAl hdb hcl hSure
  obtain ⟨wa, wc, rfl⟩ := own_shapeL hown
  obtain ⟨ka, kc, rfl, hk1, hk2, hk3⟩ := hkv
  rw [List.length_map] at hk1 ⊢
  obtain ⟨N, hN⟩ : ∃ N, N = S.waits.length := ⟨_, rfl⟩
  obtain ⟨NK, hNK⟩ : ∃ NK, NK = keep.length := ⟨_, rfl⟩
  rw [← hN] at hown hB hn ⊢
  rw [← hNK] at hk1 ⊢
  replace hk2 : kc ≤ 9223372036854775807 := by unfold maxLen at hk2; omega
  obtain ⟨c0, c1, c2, c3, c4, c5⟩ := hB.six
  obtain ⟨i, hi, hiz, his, hib⟩ := info_parts infoDd
  have HX := Lib.hid hX; have HD := Lib.hid h; have HB := Lib.hid hB; have HOWN := Lib.hid hown; have HDD := Lib.hid hdd; have HN := Lib.hid hN; have HNK := Lib.hid hNK; have HK3 := Lib.hid hk3
  clear hX h hB hown hdd hN hNK hk3 c0 c1 c3 c4 c5
  go_enter Tryz.func22, Tryz.ntmps22
  go_upto_block 0 with fail
  go_cut [6] (fun v wx => ∃ cs, wx.ownsRow w.heap.size 92 5 v (keptD S.waits keep).length cs ∧ DDs w [] (keptD S.waits keep) cs ∧ Ext w wx)
  case first =>
    go_wp2_with fail
    go_loopg [6, 19] N (fun g v ix wr => ∃ (k : Nat) (cs : List Value), k + g = N ∧ ix = .int .i64 (k : Int) ∧ wr.ownsRow w.heap.size 92 5 v (keptD (S.waits.take k) keep).length cs ∧ DDs w [] (keptD (S.waits.take k) keep) cs ∧ Ext w wr)
    case atStart => exact ⟨0, [], by omega, rfl, World.ownsRow_nil _ _ _ _, rfl, Ext.refl _⟩
    case round =>
      obtain ⟨k, cs, hkN, rfl, ho, hds, hE⟩ := hrel
      have HO := Lib.hid ho; have HDS := Lib.hid hds; have HE := Lib.hid hE
      clear ho hds hE
      by_cases hlt : k < N
      · obtain ⟨o, hko⟩ : ∃ o, S.waits[k]? = some o := ⟨_, List.getElem?_eq_getElem (by rw [← HN.out]; exact hlt)⟩
        obtain ⟨g, bv, rfl, hgl, hbv, -, p0, p1, p2, p3, p4⟩ := own_deed HOWN.out HDD.out hko
        have HBV := Lib.hid hbv
        replace p0 := HE.out.cell p0; replace p1 := HE.out.cell p1; replace p2 := HE.out.cell p2; replace p3 := HE.out.cell p3; replace p4 := HE.out.cell p4
        have HKO := Lib.hid hko
        obtain ⟨x1, x2, x3, rfl⟩ := hbv.shape
        clear hbv hko
        go_upto_region 5 with fail
        obtain ⟨W, hW⟩ : ∃ W, W = wr.alloc (.cells #[.int .i64 o.kind, .string o.name, .string o.to, .int .i64 o.n, .slice x1 x2 x3] 92) := ⟨_, rfl⟩
        have hWE : Ext wr W := by rw [hW]; exact Ext.alloc _ _
        have hWB : Blk W wr.heap.size (ddC o (.slice x1 x2 x3)).toArray 92 := by rw [hW]; exact Blk.new _ _ _
        rw [← hW]
        have q0 : W.cell? ⟨wr.heap.size, 0, none⟩ = some (.int .i64 o.kind) := hWB.cell 0 rfl
        have q1 : W.cell? ⟨wr.heap.size, 1, none⟩ = some (.string o.name) := hWB.cell 1 rfl
        have q2 : W.cell? ⟨wr.heap.size, 2, none⟩ = some (.string o.to) := hWB.cell 2 rfl
        have q3 : W.cell? ⟨wr.heap.size, 3, none⟩ = some (.int .i64 o.n) := hWB.cell 3 rfl
        have q4 : W.cell? ⟨wr.heap.size, 4, none⟩ = some (.slice x1 x2 x3) := hWB.cell 4 rfl
        have HWE := Lib.hid hWE; have HKT := Lib.hid (keptD_take S.waits keep k HKO.out)
        clear hW hWE hWB p0 p1 p2 p3 p4
        have skipc : (¬ ∃ h : k < NK, keep[k]? = some true) → keptD (S.waits.take (k + 1)) keep = keptD (S.waits.take k) keep := fun hno => by
          rw [HKT.out, if_neg (fun h => hno ⟨by rw [HNK.out]; exact (List.getElem?_eq_some_iff.1 h).1, h⟩), List.append_nil]
        by_cases hkk : k < NK
        · have hkl : k < keep.length := by rw [← HNK.out]; exact hkk
          obtain ⟨kb, hkb⟩ : ∃ kb, keep[k]? = some kb := ⟨_, List.getElem?_eq_getElem hkl⟩
          obtain ⟨kg, ko, rfl, hkc⟩ : ∃ b o, ka = some ⟨b, o, none⟩ ∧ W.cell? ⟨b, o + k, none⟩ = some (.bool kb) := by
            rcases HK3.out with h0 | ⟨b, o, ha, hc⟩
            · simp at h0; rw [h0] at hkl; simp at hkl
            · exact ⟨b, o, ha, (HE.out.trans HWE.out).cell (hc k _ (by rw [List.getElem?_map, hkb]; rfl))⟩
          cases kb with
          | true =>
            have HK1 : Hid (keptD (S.waits.take (k + 1)) keep = keptD (S.waits.take k) keep ++ [o]) := Lib.hid (by rw [HKT.out, if_pos hkb])
            have hkn : (keptD (S.waits.take k) keep).length < 1000000000 := by
              have := keptD_len (S.waits.take k) keep; rw [List.length_take] at this; omega
            obtain ⟨Kn, hKn⟩ : ∃ Kn, Kn = (keptD (S.waits.take k) keep).length := ⟨_, rfl⟩
            have hO2 := own_ext (own_ext HO.out HWE.out) (Ext.alloc W (.cells #[.int .i64 o.kind, .string o.name, .string o.to, .int .i64 o.n, .slice x1 x2 x3] 92))
            rw [← hKn] at hO2 hkn
            have HKN := Lib.hid hKn; have HO2 := Lib.hid hO2
            have hws : w.heap.size ≤ W.heap.size := (HE.out.trans HWE.out).size
            have hone : ∀ u ∈ ddC o (.slice x1 x2 x3), u.oneCell' = true := by intro u hu; simp [ddC] at hu; rcases hu with rfl | rfl | rfl | rfl | rfl <;> rfl
            clear skipc hkb hKn hO2
            have hnc : ∀ j u, (ddC o (.slice x1 x2 x3))[j]? = some u → (W.alloc (.cells #[.int .i64 o.kind, .string o.name, .string o.to, .int .i64 o.n, .slice x1 x2 x3] 92)).cell? (Addr.add ⟨W.heap.size, 0, none⟩ j) = some u := fun j u hj => by
              rw [Addr.add_lit, Nat.zero_add]
              exact (Blk.new W #[.int .i64 o.kind, .string o.name, .string o.to, .int .i64 o.n, .slice x1 x2 x3] 92).cell j (by simpa [ddC] using hj)
            have HNC := Lib.hid hnc; clear hnc
            go_wp2_with (at_builtin; refine wpList_append_own_at _ rfl (.tmp 34) (.tmp 36) _ rfl w.heap.size 92 i _ 5 72 Tryz.underlying73 hi hiz his hib rfl (by decide) u6 Kn cs rfl HO2.out ⟨W.heap.size, 0, none⟩ 1 1 (ddC o (.slice x1 x2 x3)) rfl rfl HNC.out hone (by unfold maxLen; omega) (by omega) (Nat.le_trans hws (by simp)) ?_; intro v5 w5 g1 g2 _ g4)
            have hfr : ∀ q, u6.ownBlock = some q → w.heap.size ≤ q := by
              intro q hq
              rcases HO.out.2 with ⟨h1, _⟩ | ⟨g', cap, cur, h1, h2, _⟩
              · rw [h1] at hq; cases hq
              · rw [h1] at hq; cases hq; exact h2
            have hE5 : Ext w w5 := Below.grown ((HE.out.trans HWE.out).trans (Ext.alloc _ _)) g2 (Nat.le_trans hws (by simp)) hfr
            have hl1 : (keptD (S.waits.take (k + 1)) keep).length = Kn + 1 := by rw [HK1.out, List.length_append, ← HKN.out]; rfl
            go_roundg (gk - 1)
            case measure => omega
            case rel => exact ⟨k + 1, _, by omega, by go_num, by rw [hl1]; exact g1, by rw [HK1.out]; exact HDS.out.push HBV.out (fun _ _ _ _ _ hm => by simp at hm), hE5⟩
          | false =>
            have HK1 : Hid (keptD (S.waits.take (k + 1)) keep = keptD (S.waits.take k) keep) := Lib.hid (skipc (by rintro ⟨_, h⟩; rw [hkb] at h; cases h))
            clear skipc hkb
            go_wp2_with fail
            go_roundg (gk - 1)
            case measure => omega
            case rel => exact ⟨k + 1, cs, by omega, by go_num, by rw [HK1.out]; exact own_ext HO.out HWE.out, by rw [HK1.out]; exact HDS.out, HE.out.trans HWE.out⟩
        · have HK1 : Hid (keptD (S.waits.take (k + 1)) keep = keptD (S.waits.take k) keep) := Lib.hid (skipc (by rintro ⟨h, _⟩; exact hkk h))
          have hkk' : (NK : Int) ≤ k := by omega
          clear skipc hkk
          go_wp2_with fail
          go_roundg (gk - 1)
          case measure => omega
          case rel => exact ⟨k + 1, cs, by omega, by go_num, by rw [HK1.out]; exact own_ext HO.out HWE.out, by rw [HK1.out]; exact HDS.out, HE.out.trans HWE.out⟩
      · have hkN2 : k = N := by omega
        have HTK : Hid (S.waits.take k = S.waits) := Lib.hid (by rw [hkN2, HN.out, List.take_of_length_le (Nat.le_refl _)])
        clear hlt
        go_wp2_with fail
        go_meet
        exact ⟨cs, by have := HO.out; rwa [HTK.out] at this, by have := HDS.out; rwa [HTK.out] at this, HE.out⟩
  case rest =>
  obtain ⟨cs, ho, hds, hE⟩ := hcut
  obtain ⟨K, hK⟩ : ∃ K, K = keptD S.waits keep := ⟨_, rfl⟩
  rw [← hK] at ho hds
  have hKl : K.length < 1000000000 := by have := keptD_len S.waits keep; rw [← hK, ← HN.out] at this; omega
  have HK := Lib.hid hK; have HE := Lib.hid hE; have HO := Lib.hid ho; have HDS := Lib.hid hds
  obtain ⟨v6, v6c, hv6⟩ := own_shapeL ho
  obtain ⟨Kn, hKn⟩ : ∃ Kn, Kn = K.length := ⟨_, rfl⟩
  rw [← hKn] at hv6
  have hKn9 : Kn < 1000000000 := by rw [hKn]; exact hKl
  have HKn := Lib.hid hKn
  subst hv6
  clear hK hE ho hds hKn c2
  go_upto_if 43 with fail
  go_cut [6, 9] (fun v _x9 wx => ∃ cs, wx.ownsRow w.heap.size 92 5 v (tornD torn K).length cs ∧ DDs w [] (tornD torn K) cs ∧ Ext w wx)
  case first =>
    rcases List.eq_nil_or_concat K with hnil | ⟨K0, o, hK0⟩
    · have hz : Kn = 0 := by rw [HKn.out, hnil]; rfl
      subst hz
      have HR : Hid (tornD torn K = K) := Lib.hid (by rw [hnil]; rfl)
      have hko : K.length = 0 := by rw [hnil]; rfl
      have HZ := Lib.hid hko
      clear hnil hko
      go_wp2_with fail
      go_meet
      exact ⟨cs, by rw [HR.out]; exact HO.out, by rw [HR.out]; exact HDS.out, HE.out⟩
    · have hK0' : K = K0 ++ [o] := by simpa using hK0
      obtain ⟨m, hm⟩ : ∃ m, m = K0.length := ⟨_, rfl⟩
      have hKm : Kn = m + 1 := by rw [HKn.out, hK0', hm]; simp
      have hsub : (Kn : Int) - 1 = (m : Int) := by omega
      have hmn : (m : Int) < (Kn : Int) := by omega
      have hm0 : (0 : Int) ≤ (m : Int) := by omega
      obtain ⟨cs0, bv, hcs, hd0, hbv, -⟩ := (show DDs w [] (K0 ++ [o]) cs by rw [← hK0']; exact HDS.out).last
      obtain ⟨x1, x3, rfl, hx2, hx3, -⟩ := hbv.open
      obtain ⟨x2, hx⟩ : ∃ x2, x2 = o.b.length := ⟨_, rfl⟩
      rw [← hx] at hx2 hbv hcs
      have hc0 : cs0.length = m * 5 := by rw [hd0.len, hm]
      have hown := HO.out
      rw [← HKn.out] at hown
      obtain ⟨g, rfl, hcell⟩ : ∃ g, v6 = some ⟨g, 0, none⟩ ∧ ∀ j u, cs[j]? = some u → wc.cell? ⟨g, j, none⟩ = some u := by
        rcases hown.2 with ⟨_, h5⟩ | ⟨g, cap, cur, hv, _⟩
        · omega
        · injection hv with ha _ _
          exact ⟨g, ha, fun j u hj => by
            have := hown.cells (g := g) (by rw [ha]; rfl) j u hj
            rwa [Addr.add_lit, Nat.zero_add] at this⟩
      have p4 : wc.cell? ⟨g, m * 5 + 4, none⟩ = some (.slice x1 x2 x3) := hcell _ _ (by rw [hcs, List.getElem?_append_right (by omega), hc0]; simp [ddC])
      obtain ⟨q, hq⟩ : ∃ q : Nat, q = (max 0 (min torn (o.b.length : Int))).toNat := ⟨_, rfl⟩
      rw [← hx] at hq
      have hqe : max 0 (min torn (x2 : Int)) = (q : Int) := by omega
      have hq3 : q ≤ x3 := by omega
      have hcut : Rd w (.slice x1 q x3) (u8s (tearD torn o).b) := by
        obtain ⟨a', c', hv, hc⟩ := hbv.cut q (by rw [u8s_len, ← hx]; omega)
        injection hv with e1 e2 e3
        subst e1 e3
        have : u8s (tearD torn o).b = (u8s o.b).take q := by simp only [tearD, u8s, List.map_take]; rw [hq, hx]
        rw [this]; exact hc
      have HK0 := Lib.hid hK0'; have HM := Lib.hid hm; have HCS := Lib.hid hcs; have HD0 := Lib.hid hd0; have HCUT := Lib.hid hcut; have HOW := Lib.hid hown; have HC0 := Lib.hid hc0; have HKM := Lib.hid hKm; have HX2 := Lib.hid hx
      clear hK0 hK0' hm hcs hd0 hcut hown hc0 hKm hx hq hbv hcell
      go_upto_region 10 with fail
      have h1K : decide ((1 : Int) ≤ (Kn : Int)) = true := decide_eq_true (by omega)
      simp only [hsub, h1K]
      clear hsub h1K
      apply Mono.region1 19 Ext [.is _, .is _, .is _, .is _, .is _, .is _, .is _, .is _, .is _, .is _, .is _, .is _, .is _, .is _, .is _, .is _, .is _, .is _, .is _] (by kernel_rfl) Ext.refl (fun _ _ _ => Ext.trans) (by kernel_rfl) rfl rfl trivial
      focus
        iterate 19 (apply Mono.step_is; (· refine Mono.obl_mk fun w3 hE3 _ K hK => ?_; (replace p4 := hE3.cell (show wc.drew.cell? _ = _ from p4)); clear hE3; go_wp2_with fail; simp only [Act.put, List.setIfInBounds_toArray, List.set_cons_succ, List.set_cons_zero] at hK; exact hK _ _ (Ext.refl _) (Mono.is_rfl _ _)); simp only [Act.put, List.setIfInBounds_toArray, List.set_cons_succ, List.set_cons_zero])
        refine Mono.step_end fun w3 hE3 hkn => ?_
        simp only [List.drop_succ_cons, List.drop_zero]
        clear hkn
        replace hE3 : Ext wc w3 := (Ext.drew _).trans hE3
        have hown3 := own_ext HOW.out hE3
        have hfz : w3.frozen? ⟨g, m * 5 + 4, none⟩ = false := by
          rcases hown3.2 with ⟨h1, _⟩ | ⟨g', cap, cur, hv, _, hh, _⟩
          · cases h1
          · cases hv; exact (show Blk w3 g cur _ from hh).free _
        have p5 := hE3.cell p4
        have hs3 := own_set (j := m * 5 + 4) hown3 (.slice x1 q x3)
        have hgw : w.heap.size ≤ g := by
          rcases hown3.2 with ⟨h1, _⟩ | ⟨g', cap, cur, hv, hge, _⟩
          · cases h1
          · cases hv; exact hge
        have hE4 : Ext w (w3.setCell ⟨g, m * 5 + 4, none⟩ (.slice x1 q x3)) := Below.grown (HE.out.trans hE3) (grown_set w3 g _ _) (HE.out.trans hE3).size (fun k hk => by have := Option.some.inj hk; omega)
        have hce : cs.set (m * 5 + 4) (.slice x1 q x3) = cs0 ++ ddC (tearD torn o) (.slice x1 q x3) := by
          rw [HCS.out, List.set_append_right _ _ (by rw [HC0.out]; omega), HC0.out, Nat.add_sub_cancel_left]
          rfl
        rw [hce] at hs3
        have HS3 := Lib.hid hs3; have HE4 := Lib.hid hE4
        clear hE3 hown3 hs3 hce hE4 p4
        go_wp2_with fail
        go_meet
        refine ⟨cs0 ++ ddC (tearD torn o) (.slice x1 q x3), ?_, ?_, HE4.out⟩
        · rw [HK0.out, tornD_last, List.length_append, ← HM.out, show m + [tearD torn o].length = Kn from HKM.out.symm]; exact HS3.out
        · rw [HK0.out, tornD_last]; exact HD0.out.push HCUT.out (fun _ _ _ _ _ hm => by simp at hm)
  case rest =>
  clear HO HDS HE
  obtain ⟨cs, ho, hds, hE⟩ := hcut
  obtain ⟨T, hT⟩ : ∃ T, T = tornD torn K := ⟨_, rfl⟩
  rw [← hT] at ho hds
  have hTok : ∀ o ∈ T, DdOk M o := by rw [hT]; exact tornD_ok torn fun o ho => HD.out.ok o (keptD_mem (by rw [← HK.out]; exact ho))
  have hTN : T.length ≤ N := by rw [hT, tornD_len, HK.out, HN.out]; exact keptD_len _ _
  have HX2 : Hid (X = { S with now := doAll T S.sure, sure := doAll T S.sure, waits := [], off := false, fuse := -1 }) := Lib.hid (by rw [HX.out, hT, HK.out]; rfl)
  obtain ⟨Tn, hTn⟩ : ∃ Tn, Tn = T.length := ⟨_, rfl⟩
  rw [← hTn] at ho hTN
  obtain ⟨ta, tc, htv⟩ := own_shapeL ho
  have HO := Lib.hid ho; have HDS := Lib.hid hds; have HE := Lib.hid hE; have HTOK := Lib.hid hTok; have HTN := Lib.hid hTn
  have hbs : ∀ t ∈ [bs0], NoB w t ∨ w.heap.size ≤ t := fun t ht => by simp at ht; subst ht; exact .inl HFS.out.noB
  have hbsl := HFS.out.lt
  have HBS := Lib.hid hbs
  clear ho hds hE hTok hTn hT HX hbs HK HKn HK3 hk1 hk2
  subst htv
  go_upto_block 2 with fail
  go_cut [] (fun wx => Files wx bs0 (n + Tn) A (doAll T S.sure) ∧ Chg [bs0] w wx)
  case first =>
    go_wp2_with fail
    go_loopg [65] Tn (fun g ix wr => ∃ (k : Nat), k + g = Tn ∧ ix = .int .i64 (k : Int) ∧ Files wr bs0 (n + k) A (doAll (T.take k) S.sure) ∧ Chg [bs0] w wr ∧ wr.ownsRow w.heap.size 92 5 (.slice ta Tn tc) Tn cs)
    case atStart => exact ⟨0, by omega, rfl, HFS.out.ext HE.out, Chg.ext HE.out, HO.out⟩
    case round =>
      obtain ⟨k, hkN, rfl, hf, hc, ho⟩ := hrel
      have HF := Lib.hid hf; have HC := Lib.hid hc; have HO5 := Lib.hid ho
      clear hf hc ho
      by_cases hlt : k < Tn
      · obtain ⟨o, hko⟩ : ∃ o, T[k]? = some o := ⟨_, List.getElem?_eq_getElem (by rw [← HTN.out]; exact hlt)⟩
        obtain ⟨g, bv, rfl, hgl, hbv, -, p0, p1, p2, p3, p4⟩ := own_deed HO5.out HDS.out hko
        have HBV := Lib.hid hbv
        have HKO := Lib.hid hko
        obtain ⟨x1, x2, x3, rfl⟩ := hbv.shape
        clear hbv hko
        go_upto_region 14 with fail
        obtain ⟨W, hW⟩ : ∃ W, W = wr.alloc (.cells #[.int .i64 o.kind, .string o.name, .string o.to, .int .i64 o.n, .slice x1 x2 x3] 92) := ⟨_, rfl⟩
        have hWE : Ext wr W := by rw [hW]; exact Ext.alloc _ _
        have hWB : Blk W wr.heap.size (ddC o (.slice x1 x2 x3)).toArray 92 := by rw [hW]; exact Blk.new _ _ _
        rw [← hW]
        have e0 : W.cell? ⟨wr.heap.size, 0, none⟩ = some (.int .i64 o.kind) := hWB.cell 0 rfl
        have e1 : W.cell? ⟨wr.heap.size, 1, none⟩ = some (.string o.name) := hWB.cell 1 rfl
        have e2 : W.cell? ⟨wr.heap.size, 2, none⟩ = some (.string o.to) := hWB.cell 2 rfl
        have e3 : W.cell? ⟨wr.heap.size, 3, none⟩ = some (.int .i64 o.n) := hWB.cell 3 rfl
        have e4 : W.cell? ⟨wr.heap.size, 4, none⟩ = some (.slice x1 x2 x3) := hWB.cell 4 rfl
        have k1 : W.cell? ⟨d, 1, none⟩ = some (.map (some bs0)) := hWE.cell (cell_chg HC.out HDB.out.2 (by simp; exact HDB.out.1))
        have HWE := Lib.hid hWE
        clear hW hWE hWB p0 p1 p2 p3 p4
        apply Mono.region1 5 Ext [.is _, .is _, .is _, .is _, .is _] (by kernel_rfl) Ext.refl (fun _ _ _ => Ext.trans) (by kernel_rfl) rfl rfl trivial
        focus
          iterate 5 (apply Mono.step_is; (· refine Mono.obl_mk fun w3 hE3 _ K hK => ?_; (replace k1 := hE3.cell (show W.drew.cell? _ = _ from k1)); (replace e0 := hE3.cell (show W.drew.cell? _ = _ from e0)); (replace e1 := hE3.cell (show W.drew.cell? _ = _ from e1)); (replace e2 := hE3.cell (show W.drew.cell? _ = _ from e2)); (replace e3 := hE3.cell (show W.drew.cell? _ = _ from e3)); (replace e4 := hE3.cell (show W.drew.cell? _ = _ from e4)); clear hE3; go_wp2_with fail; simp only [Act.put, List.setIfInBounds_toArray, List.set_cons_succ, List.set_cons_zero] at hK; exact hK _ _ (Ext.refl _) (Mono.is_rfl _ _)); simp only [Act.put, List.setIfInBounds_toArray, List.set_cons_succ, List.set_cons_zero])
          refine Mono.step_end fun w3 hE3 hkn => ?_
          simp only [List.drop_succ_cons, List.drop_zero]
          have hE3' : Ext wr w3 := HWE.out.trans ((Ext.drew _).trans hE3)
          have HE3 := Lib.hid hE3'
          clear hkn hE3 hE3' e0 e1 e2 e3 e4 k1
          go_wp2_with fail
          have hCw : Chg [bs0] w w3 := HC.out.trans (Chg.ext HE3.out)
          refine (do_c bs0 (n + k) M A (doAll (T.take k) S.sure) o (.slice x1 x2 x3) w3 (fun t ht => Nat.lt_of_lt_of_le (HAL.out t ht) hCw.size) (HF.out.ext HE3.out) (by omega) (HTOK.out o (List.mem_of_getElem? HKO.out)) (HBV.out.chgB hCw HBS.out) (HD.out.sure.doAll fun o' ho' => HTOK.out o' (List.mem_of_mem_take ho')) hM).mono ?_
          rintro en w5 ⟨rfl, hf5, hc5⟩
          rw [← doAll_take _ HKO.out] at hf5
          have HF5 := Lib.hid hf5; have HC5 := Lib.hid (hCw.trans hc5)
          have HO6 := Lib.hid (own_chgB (own_ext HO5.out HE3.out) hc5 (fun t ht => by simp at ht; subst ht; exact .inl hbsl))
          clear hf5 hc5 hCw
          go_wp2_with fail
          go_roundg (gk - 1)
          case measure => omega
          case rel => exact ⟨k + 1, by omega, by go_num, HF5.out, HC5.out, HO6.out⟩
      · have hkN2 : k = Tn := by omega
        have HTK : Hid (T.take k = T) := Lib.hid (by rw [hkN2, HTN.out, List.take_of_length_le (Nat.le_refl _)])
        subst hkN2
        clear hlt
        go_wp2_with fail
        go_meet
        exact ⟨by have := HF.out; rwa [HTK.out] at this, HC.out⟩
  case rest =>
  obtain ⟨hf, hc⟩ := hcut
  obtain ⟨hd2, ht2⟩ := HCL.out wc (n + Tn) _ (Nat.le_add_right _ _) hf hc (HD.out.sure.doAll HTOK.out)
  obtain ⟨S1, hS1⟩ : ∃ S1 : Dk, S1 = { S with sure := doAll T S.sure } := ⟨_, rfl⟩
  have hd3 : DkS wc d (n + Tn) M O F S1 := by rw [hS1]; exact hd2
  have HX3 : Hid (X = { S1 with now := S1.sure, waits := [], fuse := -1, off := false }) := Lib.hid (by rw [HX2.out, hS1])
  obtain ⟨bn1, bs1, wv1, hBd, -, hF, hAl1, -, -, -, hnext⟩ := hd3.openSync
  obtain ⟨c0, c1, c2, c3, c4, c5⟩ := hBd.six
  have HBD := Lib.hid hBd; have HF := Lib.hid hF; have HAL1 := Lib.hid hAl1; have HNX := Lib.hid hnext; have HT2 := Lib.hid ht2
  clear hBd hF hAl1 hnext hd2 hd3 ht2 hf hc hS1 HX2
  go_wp2_with fail
  refine (mclone_c bs1 (n + Tn) (wv1.ownBlock.toList ++ F) S1.sure wc HF.out HAL1.out).mono ?_
  rintro e w2 ⟨rfl, hf2, hE2⟩
  have hB2 := HBD.out.ext hE2
  have hlt := hf2.lt
  have q0 := hB2.free 0; have q2 := hB2.free 2; have q5 := hB2.free 5; have q4 := hB2.free 4
  have k0 : w2.cell? ⟨d, 0, none⟩ = some (.map (some bn1)) := hB2.cell 0 rfl
  have k2 : w2.cell? ⟨d, 2, none⟩ = some wv1 := hB2.cell 2 rfl
  have k5 : w2.cell? ⟨d, 5, none⟩ = some (.bool S1.off) := hB2.cell 5 rfl
  have k4 : w2.cell? ⟨d, 4, none⟩ = some (.int .i64 S1.fuse) := hB2.cell 4 rfl
  have R := HNX.out w2 ((((w2.setCell ⟨d, 0, none⟩ (.map (some wc.heap.size))).setCell ⟨d, 2, none⟩ (.slice none 0 0)).setCell ⟨d, 5, none⟩ (.bool false)).setCell ⟨d, 4, none⟩ (.int .i64 (-1))) hE2 hlt hf2 ((((Chg.set d 0 _ (by simp)).trans (Chg.set d 2 _ (by simp))).trans (Chg.set d 5 _ (by simp))).trans (Chg.set d 4 _ (by simp))) (by have := (((hB2.set 0 (.map (some wc.heap.size))).set 2 (.slice none 0 0)).set 5 (.bool false)).set 4 (.int .i64 (-1)); simpa using this)
  have HR := Lib.hid R
  clear R hB2 hf2 hE2 hlt c0 c1 c2 c3 c4 c5
  go_wp2_with fail
  refine bodyPost_end (results_none Tryz.results22 _ _ _) rfl ⟨rfl, _, ?_, HT2.out.trans HR.out.2⟩
  rw [HX3.out]
  exact HR.out.1.more (by omega)
end Go.Proofs.YtafjjladnghjbaaGreatDoor
