/- Layer 25 (seq): Get. -/
import Derived.Test.YtgefphfnicjbiaaSkh
import Derived.Deep.CutBlock
set_option linter.unusedSimpArgs false
set_option linter.unusedVariables false
namespace Go.Proofs.Ytgefphfnicjbiaa
open Go Go.RowKit

def K3 (L : List (List Int)) (x : Except Int (List Cl × List Int)) : Except Int Bk := match x with
  | .error e => .error e
  | .ok (C, r) => if r = [] then .ok ⟨L, C⟩ else .error 5
def K2 (n : Int) (L : List (List Int)) (bs : List Int) : Except Int Bk := match rdMany 8 bs with
  | .error e => .error e
  | .ok (m, r) => K3 L (rdCls n m.toNat [] r)
def K1 (n : Int) (x : Except Int (List (List Int) × List Int)) : Except Int Bk := match x with
  | .error e => .error e
  | .ok (L, r) => K2 n L r
def K4 (n : Int) (k : Nat) (acc : List Cl) (x : Int) (y : Except Int (List (Int × Int) × List Int)) : Except Int (List Cl × List Int) := match y with
  | .error e => .error e
  | .ok (ss, r) => rdCls n k (acc ++ [⟨x, ss⟩]) r
/-- What follows a client's id. -/
def K5 (n : Int) (k : Nat) (acc : List Cl) (x : Int) (bs : List Int) : Except Int (List Cl × List Int) :=
  if upTo (acc.map (·.id)) x then (match rdMany 4 bs with
      | .error e => .error e
      | .ok (m, r) => if 0 < m then K4 n k acc x (rdSls n m.toNat [] r) else .error 3) else .error 3
theorem rdCls_num (n : Int) (k : Nat) (acc : List Cl) (bs : List Int) : rdCls n (k + 1) acc bs = match rdNum bs with
    | .error e => .error e
    | .ok (x, r) => K5 n k acc x r := by
  simp only [rdCls]
  cases rdNum bs with
  | error e => rfl
  | ok p =>
    obtain ⟨x, r⟩ := p
    dsimp only [K5]
    split
    · cases rdMany 4 r with
      | error e => rfl
      | ok p =>
        obtain ⟨m, r⟩ := p
        dsimp only
        split
        · dsimp only [K4]
          cases rdSls n m.toNat [] r <;> rfl
        · rfl
    · rfl
theorem getK_eq (bs : List Int) : getK bs = match rdMany 64 bs with
  | .error e => .error e
  | .ok (n, r) => K1 n (rdLfs n.toNat [] r) := by
  unfold getK
  cases rdMany 64 bs with
  | error e => rfl
  | ok p =>
    obtain ⟨n, r⟩ := p
    dsimp only [K1]
    cases rdLfs n.toNat [] r with
    | error e => rfl
    | ok p =>
      obtain ⟨L, r⟩ := p
      dsimp only [K2]
      cases rdMany 8 r with
      | error e => rfl
      | ok p =>
        obtain ⟨m, r⟩ := p
        dsimp only [K3]
        cases rdCls n m.toNat [] r <;> rfl
theorem elLf : ElT Try.prog 24 29 (.slice none 0 0) 24 := ElT.mk' Try.underlying24 (by kernel_rfl) rfl
def K6 (n : Int) (k : Nat) (acc : List Cl) (x : Int) (y : Except Int (Int × List Int)) : Except Int (List Cl × List Int) := match y with
  | .error e => .error e
  | .ok (m, r) => if 0 < m then K4 n k acc x (rdSls n m.toNat [] r) else .error 3
/-- What follows a slot's number. -/
def K7 (n : Int) (k : Nat) (acc : List (Int × Int)) (s : Int) (y : Except Int (Int × List Int)) : Except Int (List (Int × Int) × List Int) := match y with
  | .error e => .error e
  | .ok (i, r) => if i < n then rdSls n k (acc ++ [(s, i)]) r else .error 3
def K8 (n : Int) (k : Nat) (acc : List (Int × Int)) (y : Except Int (Int × List Int)) : Except Int (List (Int × Int) × List Int) := match y with
  | .error e => .error e
  | .ok (s, r) => if upTo (acc.map (·.1)) s then K7 n k acc s (rdNum r) else .error 3
theorem rdSls_num (n : Int) (k : Nat) (acc : List (Int × Int)) (bs : List Int) : rdSls n (k + 1) acc bs = K8 n k acc (rdNum bs) := by
  simp only [rdSls]
  cases rdNum bs with
  | error e => rfl
  | ok p =>
    obtain ⟨x, r⟩ := p
    dsimp only [K8]
    split
    · cases rdNum r with
      | error e => rfl
      | ok p => rfl
    · rfl
theorem K5_ok {n : Int} {k : Nat} {acc : List Cl} {x : Int} {bs : List Int} (h : upTo (acc.map (·.id)) x = true) : K5 n k acc x bs = K6 n k acc x (rdMany 4 bs) := by unfold K5 K6; rw [if_pos h]
theorem ought_q (no : Int) (w : World) : Calls Try.prog 35 #[.bool true, .int .i64 no] w fun e w' => e = .returned (.tuple #[]) ∧ w' = w := (ought_ok (z := true) rfl no w).mono fun e w' h => ⟨h.2, h.1⟩
set_option maxRecDepth 100000 in
set_option maxHeartbeats 8000000 in
theorem kget_c (v : Value) (bs : List Int) (w : World) (h : Rd w v (u8s bs)) (h8 : B8 bs) (hl : bs.length ≤ 140737488355328) : Calls Try.prog 11 #[v] w (KOut (getK bs) w) := by
  have hmf : ∀ (fn : Fn) (first cap : Array Value) (w : World), (Instr.makeFunc fn first cap).run Try.prog w = .ok (.func fn first cap) w := fun _ _ _ _ => rfl
  have hnew := fun w h => new_m v bs w h hl
  obtain ⟨X, hX⟩ : ∃ X, X = getK bs := ⟨_, rfl⟩
  rw [← hX]
  rw [getK_eq] at hX
  have HX := Lib.hid hX; have HR := Lib.hid h; have HNW := Lib.hid hnew; have H8 := Lib.hid h8
  obtain ⟨a, n, c, rfl⟩ := h.shape
  clear hX h hnew h8
  go_enter_defers Try.func11, Try.ntmps11
  go_upto_region 3 with (refine (HNW.out _ (HR.out.ext ((Ext.alloc _ _).trans (Ext.alloc _ _)))).mono ?_; rintro e w2 ⟨rb, rfl, hrb, hr, hE⟩; have HRB := Lib.hid hrb; have HRD := Lib.hid hr; have HE := Lib.hid hE; clear hrb hr hE)
  have hG : GB w (w2.alloc (.cells #[ptr rb] 68)) w2.heap.size rb (.slice none 0 0) (.slice none 0 0) (.slice none 0 0) (.slice none 0 0) [] [] bs := by
    have hsz := HE.out.size
    have hrb := HRB.out
    simp only [World.size_alloc] at hsz hrb
    have b2 : Blk ((w.alloc (.cells #[.slice none 0 0, .slice none 0 0] 27)).alloc (.cells #[.int .i64 0] 33)) w.heap.size #[.slice none 0 0, .slice none 0 0] 27 := (Blk.new w _ _).alloc _
    have b3 : Blk ((w.alloc (.cells #[.slice none 0 0, .slice none 0 0] 27)).alloc (.cells #[.int .i64 0] 33)) (w.heap.size + 1) #[.int .i64 0] 33 := by
      have := Blk.new (w.alloc (.cells #[.slice none 0 0, .slice none 0 0] 27)) #[.int .i64 0] 33
      simpa only [World.size_alloc] using this
    exact ⟨(((Ext.alloc _ _).trans (Ext.alloc _ _)).trans HE.out).trans (Ext.alloc _ _), (b2.ext HE.out).alloc _, (b3.ext HE.out).alloc _, Blk.new w2 _ _, rdr_ext HRD.out (Ext.alloc _ _), by omega, by omega, H8.out, hl, ⟨rfl, .inl ⟨rfl, rfl⟩⟩, by simp, ⟨by simp, by simp⟩, ⟨rfl, .inl ⟨rfl, rfl⟩⟩, by simp⟩
  obtain ⟨t4, ht4⟩ : ∃ t, t = w2.heap.size := ⟨_, rfl⟩
  rw [← ht4] at hG ⊢
  generalize w2.alloc (.cells #[ptr rb] 68) = W3 at *
  obtain ⟨Y, hY⟩ : ∃ Y, Y = rdMany 64 bs := ⟨_, rfl⟩
  have hcall := many_c 64 t4 rb bs W3 hG.b4 hG.b8 hG.rd
  rw [← hY] at hcall HX
  have HY := Lib.hid hY
  have HG := Lib.hid hG
  clear hY hG HE HRD HRB HNW HR H8 hl ht4
  cases Y with
  | error no =>
    dsimp only at hcall HX
    go_wp2_with fail
    refine hcall.mono ?_
    rintro e w' ⟨hg, rfl, hno⟩
    refine kget_door no w w' _ X HX.out (HG.out.kdr hg) ?_ ?_ <;> rfl
  | ok p =>
    obtain ⟨n0, r⟩ := p
    obtain ⟨hrl, hn0, hn64, hr8⟩ := rdMany_inv HG.out.b8 HY.out.symm
    replace hrl : r.length ≤ bs.length := by rw [hrl]; simp
    obtain ⟨N, rfl⟩ : ∃ N : Nat, n0 = (N : Int) := ⟨n0.toNat, by omega⟩
    dsimp only at hcall HX
    rw [Int.toNat_natCast] at HX
    have HR8 := Lib.hid hr8; have HRL := Lib.hid hrl; have HXN := Lib.hid HX.out
    clear HY hr8 hn0 hrl HX
    have HX := Lib.hid HXN.out
    clear HXN
    go_wp2_with fail
    refine hcall.mono ?_
    rintro e w' ⟨hg, rfl, hr⟩
    have HG := Lib.hid (HG.out.read hg hr HR8.out HRL.out)
    clear hg hr hcall HR8 HRL
    go_wp2_with fail
    go_loopg [19] N (fun g v19 wr => ∃ (k : Nat) (L : List LQ) (lv : Value) (bs' : List Int), v19 = .int .u64 (k : Int) ∧ k + g = N ∧ L.length = k ∧ GB w wr t4 rb lv (.slice none 0 0) lv (.slice none 0 0) L [] bs' ∧ X = K1 N (rdLfs (N - k) (L.map (·.1)) bs'))
    case atStart => exact ⟨0, [], _, r, rfl, by omega, rfl, HG.out, HX.out⟩
    case round =>
      obtain ⟨k, L, lv, bs', rfl, hkN, hLk, hG, hX⟩ := hrel
      have HG := Lib.hid hG; have HX := Lib.hid hX
      clear hG hX
      by_cases hk : k < N
      · have hk' : (k : Int) < (N : Int) := by omega
        obtain ⟨Y, hY⟩ : ∃ Y, Y = rdRaw 64 bs' := ⟨_, rfl⟩
        have hraw := fun W h => raw_m rb bs' 0 64 W HG.out.b8 HG.out.len (by omega) h
        simp only [stuck?, if_true] at hraw
        have hX := HX.out
        rw [show N - k = (N - (k + 1)) + 1 by omega] at hX
        simp only [rdLfs] at hX
        rw [← hY] at hraw hX
        have HY := Lib.hid hY
        clear hY HX
        cases Y with
        | error no =>
          have hno := rdRaw_bad HY.out.symm
          replace hX : X = .error no := hX
          have hmu := fun v w => must_raw v no w
          simp only [if_neg hno] at hmu
          have HXE := Lib.hid hX; have HRAW := Lib.hid hraw; have HMU := Lib.hid hmu
          clear hX hno HY hraw hmu
          go_upto_region 7 with fail
          apply Mono4.Chain.walk (fun c W' => c = [{ v := errv no, recovered := false }] ∧ KD w W') 9 ⟨Ext, fun c w w' => True, fun c W => GE w W t4 rb lv (.slice none 0 0) ∧ (c = 0 → GB w W t4 rb lv (.slice none 0 0) lv (.slice none 0 0) L [] bs'), [3, 8]⟩ [.is _, .is _, .is _, .is _, .is _, .is _, .rel (fun _ _ => False), .is undef, .is undef] (by kernel_rfl) (fun c W W' h hE => ⟨h.1.ext' hE, fun hc => (h.2 hc).ext' hE⟩) ⟨(HG.out.ext' (Ext.drew _)).ge, fun _ => HG.out.ext' (Ext.drew _)⟩ (by kernel_rfl) rfl rfl
            ⟨⟨fun _ _ _ h _ => h, fun _ _ _ _ _ _ h _ => h⟩, trivial⟩
            (fun c b w' hc hdf hs => (by obtain ⟨rfl, hd⟩ := hc; obtain ⟨bt, bd⟩ := b; cases hdf; exact kget_door no w w' bt X HXE.out hd ((hs 2 (by kernel_rfl)).trans rfl) ((hs 3 (by kernel_rfl)).trans rfl)))
          focus
            iterate 3 (apply Mono4.Chain.step_is; (· refine Mono4.Chain.obl_quiet (by kernel_rfl) fun w9 c hlo hhi hst hkn K hK => ?_; (have q2 := hst.1.b2.cell 0 rfl); (have q4 := hst.1.b4.cell 0 rfl); (simp only [List.getElem_toArray, List.getElem_cons_zero] at q2 q4); clear hlo hhi hst hkn; go_wp2_with fail; simp only [Act.put, List.setIfInBounds_toArray, List.set_cons_succ, List.set_cons_zero] at hK; exact hK _ _ (Ext.refl _) (Mono4.is_rfl _ _)); simp only [Act.put, List.setIfInBounds_toArray, List.set_cons_succ, List.set_cons_zero])
            apply Mono4.Chain.step_is
            · refine Mono4.Chain.obl_loud 0 (by kernel_rfl) (by kernel_rfl) (by kernel_rfl) fun w9 hst hkn K hK => ?_
              have HG9 := Lib.hid (hst.2 rfl)
              clear hst hkn
              go_wp2_with fail
              refine (HRAW.out _ HG9.out.rd).mono ?_
              rintro e w10 ⟨hg, rfl, hr⟩
              have HE10 := Lib.hid (HG9.out.ger hg)
              clear hg hr
              go_wp2_with fail
              simp only [Act.put, List.setIfInBounds_toArray, List.set_cons_succ, List.set_cons_zero] at hK
              exact hK _ _ trivial ⟨HE10.out, fun h => by cases h⟩ (Mono4.is_rfl _ _)
            simp only [Act.put, List.setIfInBounds_toArray, List.set_cons_succ, List.set_cons_zero]
            iterate 2 (apply Mono4.Chain.step_is; (· refine Mono4.Chain.obl_quiet (by kernel_rfl) fun w9 c hlo hhi hst hkn K hK => ?_; (have q2 := hst.1.b2.cell 0 rfl); (have q4 := hst.1.b4.cell 0 rfl); (simp only [List.getElem_toArray, List.getElem_cons_zero] at q2 q4); clear hlo hhi hst hkn; go_wp2_with fail; simp only [Act.put, List.setIfInBounds_toArray, List.set_cons_succ, List.set_cons_zero] at hK; exact hK _ _ (Ext.refl _) (Mono4.is_rfl _ _)); simp only [Act.put, List.setIfInBounds_toArray, List.set_cons_succ, List.set_cons_zero])
            refine Mono4.Chain.step_rel (Mono4.Chain.obl_at 1 (by kernel_rfl) (by kernel_rfl) (by kernel_rfl) fun w9 hst hkn K hK => ?_) fun v27 => ?_
            · have hd := hst.1.kd
              clear hst hkn
              go_wp2_with fail
              refine (HMU.out _ _).mono ?_
              rintro e w10 ⟨rfl, rfl⟩
              exact ⟨rfl, hd⟩
            simp only [Act.put, List.setIfInBounds_toArray, List.set_cons_succ, List.set_cons_zero]
            refine Mono4.Chain.step_is (Mono4.Chain.obl_quiet (by kernel_rfl) fun w9 c _ _ _ hkn K hK => (hkn.1 (by kernel_rfl)).elim) ?_
            refine Mono4.Chain.step_is (Mono4.Chain.obl_loud 1 (by kernel_rfl) (by kernel_rfl) (by kernel_rfl) fun w9 _ hkn K hK => (hkn.1 (by kernel_rfl)).elim) ?_
            exact Mono4.Chain.step_end fun w9 hst hkn => hkn.1.elim
        | ok p =>
          obtain ⟨l, r'⟩ := p
          obtain ⟨hr8, hl8, hrl, hl64⟩ := rdRaw_fine HG.out.b8 HY.out.symm
          dsimp only at hX hraw
          have hmu := fun v w => must_raw v 0 w
          simp only [if_true] at hmu
          have HX := Lib.hid hX; have HRAW := Lib.hid hraw; have HMU := Lib.hid hmu; have HR8 := Lib.hid hr8; have HRL := Lib.hid hrl
          clear hX HY hraw hmu hr8 hrl
          go_upto_region 7 with fail
          have hst1 : ∀ v w' w'', (Rd w' v (u8s l) ∧ UnT w' v) → Ext w' w'' → (Rd w'' v (u8s l) ∧ UnT w'' v) := fun v w' w'' h hE => ⟨h.1.ext hE, h.2.ext hE⟩
          apply Mono4.Chain.walk (fun c W' => False) 9 ⟨Ext, fun c W W' => c = 0 ∨ Chg lv.ownBlock.toList W W' ∧ ∀ t ∈ lv.ownBlock.toList, ∀ cs, ¬ Blk W t cs 5, fun c W => GE w W t4 rb lv (.slice none 0 0) ∧ (c = 0 → GB w W t4 rb lv (.slice none 0 0) lv (.slice none 0 0) L [] bs') ∧ (c = 1 → GB w W t4 rb lv (.slice none 0 0) lv (.slice none 0 0) L [] r'), [3, 8]⟩
            [.is _, .is _, .is _, .rel (fun v W => ∃ u, v = .tuple #[u, .int .i64 0] ∧ (Rd W u (u8s l) ∧ UnT W u)), .rel (fun u W => Rd W u (u8s l) ∧ UnT W u), .is (.int .i64 0), .rel (fun u W => Rd W u (u8s l) ∧ UnT W u),
              .rel (fun v W => ∃ q u, v = .slice (some ⟨q, 0, none⟩) 1 1 ∧ Blk W q #[u] 29 ∧ q ∉ lv.ownBlock.toList ∧ (Rd W u (u8s l) ∧ UnT W u)), .rel (fun v W => ∃ u, GB w W t4 rb lv (.slice none 0 0) v (.slice none 0 0) (L ++ [(l, u)]) [] r')] (by kernel_rfl) (fun c W W' h hE => ⟨h.1.ext' hE, fun hc => (h.2.1 hc).ext' hE, fun hc => (h.2.2 hc).ext' hE⟩) ⟨(HG.out.ext' (Ext.drew _)).ge, fun _ => HG.out.ext' (Ext.drew _), fun h => by cases h⟩ (by kernel_rfl) rfl rfl
            ⟨⟨fun v a b h hE => (by obtain ⟨u, h1, h2⟩ := h; exact ⟨u, h1, hst1 _ _ _ h2 hE⟩), fun c hc _ v a b h hA => (by have hA := (hA.resolve_left (Nat.ne_of_gt (Nat.lt_of_lt_of_le Nat.zero_lt_one (Nat.le_trans (Nat.le_of_eq (show 1 = _ by kernel_rfl)) hc)))); obtain ⟨u, h1, h2⟩ := h; exact ⟨u, h1, leaf_chg h2 hA.1 hA.2⟩)⟩,
              ⟨fun v a b h hE => hst1 _ _ _ h hE, fun c hc _ v a b h hA => (by have hA := (hA.resolve_left (Nat.ne_of_gt (Nat.lt_of_lt_of_le Nat.zero_lt_one (Nat.le_trans (Nat.le_of_eq (show 1 = _ by kernel_rfl)) hc)))); exact leaf_chg h hA.1 hA.2)⟩,
              ⟨fun v a b h hE => hst1 _ _ _ h hE, fun c hc _ v a b h hA => (by have hA := (hA.resolve_left (Nat.ne_of_gt (Nat.lt_of_lt_of_le Nat.zero_lt_one (Nat.le_trans (Nat.le_of_eq (show 1 = _ by kernel_rfl)) hc)))); exact leaf_chg h hA.1 hA.2)⟩,
              ⟨fun v a b h hE => (by obtain ⟨q, u, h1, h2, h3, h4⟩ := h; exact ⟨q, u, h1, h2.ext hE, h3, hst1 _ _ _ h4 hE⟩), fun c hc _ v a b h hA => (by have hA := (hA.resolve_left (Nat.ne_of_gt (Nat.lt_of_lt_of_le Nat.zero_lt_one (Nat.le_trans (Nat.le_of_eq (show 1 = _ by kernel_rfl)) hc)))); obtain ⟨q, u, h1, h2, h3, h4⟩ := h; exact ⟨q, u, h1, h2.chg hA.1 h3, h3, leaf_chg h4 hA.1 hA.2⟩)⟩,
              ⟨fun v a b h hE => (by obtain ⟨u, h1⟩ := h; exact ⟨u, h1.ext' hE⟩), fun c hc hc' v a b h hA => absurd (Nat.lt_of_le_of_lt (Nat.le_trans (Nat.le_of_eq (show 2 = _ by kernel_rfl)) hc) hc') (Nat.lt_irrefl 2)⟩, trivial⟩
            (fun c b w' hc hdf hs => hc.elim)
          focus
            iterate 3 (apply Mono4.Chain.step_is; (· refine Mono4.Chain.obl_quiet (by kernel_rfl) fun w9 c hlo hhi hst hkn K hK => ?_; (have q2 := hst.1.b2.cell 0 rfl); (have q4 := hst.1.b4.cell 0 rfl); (simp only [List.getElem_toArray, List.getElem_cons_zero] at q2 q4); clear hlo hhi hst hkn; go_wp2_with fail; simp only [Act.put, List.setIfInBounds_toArray, List.set_cons_succ, List.set_cons_zero] at hK; exact hK _ _ (Ext.refl _) (Mono4.is_rfl _ _)); simp only [Act.put, List.setIfInBounds_toArray, List.set_cons_succ, List.set_cons_zero])
            refine Mono4.Chain.step_rel (Mono4.Chain.obl_loud 0 (by kernel_rfl) (by kernel_rfl) (by kernel_rfl) fun w9 hst hkn K hK => ?_) fun v24 => ?_
            · have HG9 := Lib.hid (hst.2.1 rfl)
              clear hst hkn hst1
              go_wp2_with fail
              refine (HRAW.out _ HG9.out.rd).mono ?_
              rintro e w10 ⟨hg, v, rfl, hn, hr⟩
              have HE10 := Lib.hid (HG9.out.read hg hr HR8.out HRL.out)
              have HLF := Lib.hid (And.intro hn.1 hn.2.2)
              clear hg hr hn
              go_wp2_with fail
              simp only [Act.put, List.setIfInBounds_toArray, List.set_cons_succ, List.set_cons_zero] at hK
              exact hK _ _ (.inl trivial) ⟨HE10.out.ge, fun h => (by cases h), fun _ => HE10.out⟩ (Mono4.rel_mk ⟨v, rfl, HLF.out⟩)
            simp only [Act.put, List.setIfInBounds_toArray, List.set_cons_succ, List.set_cons_zero]
            refine Mono4.Chain.step_rel (Mono4.Chain.obl_quiet (by kernel_rfl) fun w9 c hlo hhi hst hkn K hK => ?_) fun v25 => ?_
            · obtain ⟨u, rfl, hu⟩ := hkn.1 (by kernel_rfl)
              have HU := Lib.hid hu
              clear hlo hhi hst hkn hst1 hu
              go_wp2_with fail
              simp only [Act.put, List.setIfInBounds_toArray, List.set_cons_succ, List.set_cons_zero] at hK
              exact hK _ _ (Ext.refl _) (Mono4.rel_mk HU.out)
            simp only [Act.put, List.setIfInBounds_toArray, List.set_cons_succ, List.set_cons_zero]
            apply Mono4.Chain.step_is
            · refine Mono4.Chain.obl_quiet (by kernel_rfl) fun w9 c hlo hhi hst hkn K hK => ?_
              obtain ⟨u, rfl, hu⟩ := hkn.1 (by kernel_rfl)
              clear hlo hhi hst hkn hst1 hu
              go_wp2_with fail
              simp only [Act.put, List.setIfInBounds_toArray, List.set_cons_succ, List.set_cons_zero] at hK
              exact hK _ _ (Ext.refl _) (Mono4.is_rfl _ _)
            simp only [Act.put, List.setIfInBounds_toArray, List.set_cons_succ, List.set_cons_zero]
            refine Mono4.Chain.step_rel (Mono4.Chain.obl_quiet (by kernel_rfl) fun w9 c hlo hhi hst hkn K hK => ?_) fun v27 => ?_
            · have HU := Lib.hid (hkn.2.1 (by kernel_rfl))
              clear hlo hhi hst hkn hst1
              go_wp2_with fail
              refine (HMU.out _ _).mono ?_
              rintro e w10 ⟨rfl, rfl⟩
              go_wp2_with fail
              simp only [Act.put, List.setIfInBounds_toArray, List.set_cons_succ, List.set_cons_zero] at hK
              exact hK _ _ (Ext.refl _) (Mono4.rel_mk HU.out)
            simp only [Act.put, List.setIfInBounds_toArray, List.set_cons_succ, List.set_cons_zero]
            refine Mono4.Chain.step_rel (Mono4.Chain.obl_at 1 (by kernel_rfl) (by kernel_rfl) (by kernel_rfl) fun w9 hst hkn K hK => ?_) fun v28 => ?_
            · have hu := hkn.2.2.1 (by kernel_rfl)
              obtain ⟨a4, n4, c4, rfl⟩ := hu.1.shape
              have HU := Lib.hid hu
              have HLO := Lib.hid (hst.2.2 rfl).lo
              clear hst hkn hst1 hu
              go_wp2_with fail
              simp only [Act.put, List.setIfInBounds_toArray, List.set_cons_succ, List.set_cons_zero] at hK
              exact hK _ _ (Ext.alloc _ _) (Mono4.rel_mk ⟨w9.heap.size, _, rfl, Blk.new _ _ _, fun hm => Nat.lt_irrefl _ (own_lt HLO.out _ hm), HU.out.1.ext (Ext.alloc _ _), HU.out.2.ext (Ext.alloc _ _)⟩)
            simp only [Act.put, List.setIfInBounds_toArray, List.set_cons_succ, List.set_cons_zero]
            refine Mono4.Chain.step_rel (Mono4.Chain.obl_loud 1 (by kernel_rfl) (by kernel_rfl) (by kernel_rfl) fun w9 hst hkn K hK => ?_) fun v29 => ?_
            · obtain ⟨q, u, rfl, hq1, hq2, hu⟩ := hkn.2.2.2.1 (by kernel_rfl)
              have HQ1 := Lib.hid hq1; have HU := Lib.hid hu
              have HG9 := Lib.hid (hst.2.2 rfl)
              clear hst hkn hst1 hq1 hq2 hu
              go_wp2_with (at_builtin; refine wpList_append_rd rfl (.tmp 22) (.tmp 28) _ rfl elLf (rb + 1) lv L.length (L.map (·.2)) [u] rfl HG9.out.lo _ rfl ⟨_, 1, rfl, Nat.le_refl _, by unfold maxLen; omega, .inr ⟨q, 0, rfl, fun j x hj => by rw [Nat.zero_add]; exact HQ1.out.cell j (by simpa using hj)⟩⟩ (fun x hx => by simp at hx; subst hx; obtain ⟨a4, n4, c4, h4⟩ := HU.out.1.shape; rw [h4]; rfl) (by simp; omega) (by unfold maxLen; simp; omega) (by have := rdr_lt HG9.out.rd; omega) ?_; intro v' w' ho' hg'; have HO' := Lib.hid ho'; have HG' := Lib.hid hg'; clear ho' hg')
              simp only [Act.put, List.setIfInBounds_toArray, List.set_cons_succ, List.set_cons_zero] at hK
              have hleaf := HG9.out.leaf HU.out (by simpa using HO'.out) HG'.out
              refine hK _ _ (.inr ⟨Chg.grown HG'.out, fun t ht cs hb => ?_⟩) ⟨hleaf.ge, fun h => (by cases h), fun h => (by cases h)⟩ (Mono4.rel_mk ⟨u, hleaf⟩)
              obtain ⟨_, _, cur, h3⟩ := own_type HG9.out.lo t ht
              exact absurd (blk_type hb h3) (by decide)
            simp only [Act.put, List.setIfInBounds_toArray, List.set_cons_succ, List.set_cons_zero]
            refine Mono4.Chain.step_end fun w9 hst hkn => ?_
            simp only [List.drop_succ_cons, List.drop_zero]
            obtain ⟨u, hG9⟩ := hkn.2.2.2.2.1
            obtain ⟨a9, c9, rfl, -, -, -⟩ := own_slice hG9.lo
            rw [show (L ++ [(l, u)]).length = k + 1 by simp; omega] at hG9 ⊢
            have f20 := hG9.b2.free 0; have q20 := hG9.b2.cell 0 rfl
            simp only [List.getElem_toArray, List.getElem_cons_zero] at q20
            have HG9 := Lib.hid hG9
            clear hst hkn hst1 hG9
            go_wp2_with fail
            have hP := HG9.out.put (lv1 := .slice a9 (k + 1) c9) (cv1 := .slice none 0 0) (W' := w9.setCell ⟨w.heap.size, 0, none⟩ (.slice a9 (k + 1) c9)) ⟨by simp, by simp⟩ (Chg.set _ _ _ (by simp)) (by simpa using HG9.out.b2.set 0 (.slice a9 (k + 1) c9))
            go_roundg (N - (k + 1))
            case measure => omega
            case rel => exact ⟨k + 1, L ++ [(l, u)], _, r', by go_num, by omega, by simp; omega, hP, by rw [List.map_append]; exact HX.out⟩
      · have hk' : (N : Int) ≤ (k : Int) := by omega
        have hkk : k = N := by omega
        have hX0 := HX.out
        clear hk' HX
        subst hkk
        have HX := Lib.hid hX0
        clear hX0
        obtain ⟨Lp, hLp⟩ : ∃ Lp, Lp = L.map (·.1) := ⟨_, rfl⟩
        have hX : X = K2 k Lp bs' := by have := HX.out; rw [Nat.sub_self] at this; rw [hLp]; exact this
        unfold K2 at hX
        obtain ⟨Y, hY⟩ : ∃ Y, Y = rdMany 8 bs' := ⟨_, rfl⟩
        have hcall := many_c 8 t4 rb bs' wr HG.out.b4 HG.out.b8 HG.out.rd
        rw [← hY] at hcall hX
        have HY := Lib.hid hY; have HLP := Lib.hid hLp
        clear HX
        have HX := Lib.hid hX
        clear hY hX hLp hk hkN
        cases Y with
        | error no =>
          dsimp only at hcall HX
          go_wp2_with fail
          refine hcall.mono ?_
          rintro e w' ⟨hg, rfl, hno⟩
          refine kget_door no w w' _ X HX.out (HG.out.kdr hg) ?_ ?_ <;> rfl
        | ok p =>
          obtain ⟨n0, r⟩ := p
          obtain ⟨hrl, hn0, hm8, hr8⟩ := rdMany_inv HG.out.b8 HY.out.symm
          replace hrl : r.length ≤ bs'.length := by rw [hrl]; simp
          obtain ⟨M, rfl⟩ : ∃ M : Nat, n0 = (M : Int) := ⟨n0.toNat, by omega⟩
          dsimp only at hcall HX
          rw [Int.toNat_natCast] at HX
          have HR8 := Lib.hid hr8; have HRL := Lib.hid hrl
          clear HY hr8 hn0 hrl
          go_wp2_with fail
          refine hcall.mono ?_
          rintro e w' ⟨hg, rfl, hr⟩
          have HG := Lib.hid (HG.out.read hg hr HR8.out HRL.out)
          clear hg hr hcall HR8 HRL
          go_wp2_with fail
          go_loopg [34] M (fun g v34 wr => ∃ (i : Nat) (C : List CQ) (cv : Value) (bs' : List Int), v34 = .int .u64 (i : Int) ∧ i + g = M ∧ C.length = i ∧ GB w wr t4 rb lv cv lv cv L C bs' ∧ X = K3 Lp (rdCls k (M - i) (C.map (·.1)) bs'))
          case atStart => exact ⟨0, [], _, r, rfl, by omega, rfl, HG.out, HX.out⟩
          case round =>
            obtain ⟨i, C, cv, bs', rfl, hiM, hCi, hG, hX⟩ := hrel
            have HG := Lib.hid hG; have HX := Lib.hid hX
            clear hG hX
            by_cases hi : i < M
            · have hi' : (i : Int) < (M : Int) := by omega
              obtain ⟨Y, hY⟩ : ∃ Y, Y = rdNum bs' := ⟨_, rfl⟩
              have hnum := num_m rb bs' 0 wr HG.out.b8 HG.out.rd
              simp only [stuck?, if_true] at hnum
              have hX := HX.out
              rw [show M - i = (M - (i + 1)) + 1 by omega] at hX
              rw [rdCls_num] at hX
              rw [← hY] at hnum hX
              have HY := Lib.hid hY
              have q4 := HG.out.b4.cell 0 rfl
              simp only [List.getElem_toArray, List.getElem_cons_zero] at q4
              clear hY HX
              cases Y with
              | error no =>
                have hno := rdNum_bad HY.out.symm
                replace hX : X = .error no := hX
                have hmu := fun v w => must_u64 v no w
                simp only [if_neg hno] at hmu
                have HX := Lib.hid hX
                clear hX HY hno
                go_wp2_with fail
                refine hnum.mono ?_
                rintro e w' ⟨hg, rfl, hr⟩
                have HKD := Lib.hid (HG.out.kdr hg)
                clear hg hr hnum
                go_wp2_with fail
                refine (hmu _ _).mono ?_
                rintro e w10 ⟨rfl, rfl⟩
                refine kget_door no w w10 _ X HX.out HKD.out ?_ ?_ <;> rfl
              | ok p =>
                obtain ⟨x, r1⟩ := p
                obtain ⟨hr8, hx64, hrl⟩ := rdNum_fine HG.out.b8 HY.out.symm
                dsimp only at hX
                have hmu := fun v w => must_u64 v 0 w
                simp only [if_true] at hmu
                have HX := Lib.hid hX; have HR8 := Lib.hid hr8; have HRL := Lib.hid hrl; have HX64 := Lib.hid hx64
                clear hX HY hr8 hrl hx64
                go_wp2_with fail
                refine hnum.mono ?_
                rintro e w' ⟨hg, _, rfl, rfl, hr⟩
                have HG1 := Lib.hid (HG.out.read hg hr HR8.out HRL.out)
                clear hg hr hnum q4
                go_wp2_with fail
                refine (hmu _ _).mono ?_
                rintro e w10 ⟨rfl, rfl⟩
                go_upto_region 13 with fail
                obtain ⟨T8, hT8⟩ : ∃ T, T = w10.heap.size := ⟨_, rfl⟩
                rw [← hT8]
                have hB8 := Blk.new w10 #[.int .u64 x, .slice none 0 0] 55
                have hEL := HG1.out.elder
                rw [← hT8] at hB8 hEL
                have hG8 := HG1.out.ext' (Ext.alloc w10 (.cells #[.int .u64 x, .slice none 0 0] 55))
                generalize w10.alloc (.cells #[.int .u64 x, .slice none 0 0] 55) = W8 at *
                have HB8 := Lib.hid hB8; have HEL := Lib.hid hEL; have HG8 := Lib.hid hG8
                clear hB8 hEL hG8 hT8 HG HG1 HR8 HRL
                by_cases hz : upTo ((C.map (·.1)).map (·.id)) x = true
                · have hX := HX.out
                  rw [K5_ok hz] at hX
                  clear HX
                  have HX := Lib.hid hX
                  clear hX
                  go_cut [34, 57] from 34 to 112 (fun v34 _v57 wx => v34 = .int .u64 (i : Int) ∧ Ext W8 wx)
                  case first =>
                    have hoq := fun no w => ought_q no w
                    by_cases hi0 : i = 0
                    · have b0 : ((i : Int) == 0) = true := by subst hi0; rfl
                      clear hi0
                      go_big_quiet (first | (go_at_call 35; refine Calls.quiet_of_same (hoq _ _)))
                      go_wp2_with fail
                      go_meet
                      exact ⟨rfl, Ext.drewN _ _⟩
                    · obtain ⟨j, q, hij, hq, hle⟩ : ∃ (j : Nat) (q : CQ), i = j + 1 ∧ C[j]? = some q ∧ q.1.id < x := by
                        rcases List.eq_nil_or_concat C with hn | ⟨C0, q, hn⟩
                        · subst hn; exact absurd hCi.symm hi0
                        · rw [List.concat_eq_append] at hn
                          refine ⟨C0.length, q, by rw [← hCi, hn]; simp, by rw [hn]; simp, ?_⟩
                          rw [hn, List.map_append, List.map_append] at hz
                          unfold upTo at hz
                          simpa using hz
                      obtain ⟨gc, cc, rfl, -, -, hgc⟩ := own_slice HG8.out.co
                      obtain ⟨g, rfl⟩ := hgc (by omega)
                      have c21 := HG8.out.b2.cell 1 rfl; have c80 := HB8.out.cell 0 rfl
                      have cj := own_cell HG8.out.co (j * 2) (cl_get C j q hq).1
                      simp only [List.getElem_toArray, List.getElem_cons_zero, List.getElem_cons_succ] at c21 c80
                      have hle' : x > q.1.id := hle
                      have b0 : ((i : Int) == 0) = false := by have : ¬ (i : Int) = 0 := by omega
                                                               simpa using this
                      rw [hCi] at c21
                      clear HX hz hq hle hi0 hgc
                      generalize q.1.id = y at *
                      have hj1 : (i : Int) - 1 = (j : Int) := by omega
                      have hi1 : (1 : Int) ≤ (i : Int) := by omega
                      clear hij
                      go_big_quiet (first | (go_at_call 35; refine Calls.quiet_of_same (hoq _ _)))
                      go_wp2_with fail
                      go_meet
                      exact ⟨rfl, Ext.drewN _ _⟩
                  case rest =>
                    obtain ⟨rfl, hE⟩ := hcut
                    have HG9 := Lib.hid (HG8.out.ext' hE); have HB9 := Lib.hid (HB8.out.ext hE)
                    clear hE HG8 HB8 hz
                    obtain ⟨Y, hY⟩ : ∃ Y, Y = rdMany 4 r1 := ⟨_, rfl⟩
                    have hcall := many_c 4 t4 rb r1 wc HG9.out.b4 HG9.out.b8 HG9.out.rd
                    have hX := HX.out
                    rw [← hY] at hcall hX
                    have HY := Lib.hid hY
                    clear hY HX
                    cases Y with
                    | error no =>
                      replace hX : X = .error no := hX
                      have HX := Lib.hid hX
                      clear hX
                      dsimp only at hcall
                      go_wp2_with fail
                      refine hcall.mono ?_
                      rintro e w' ⟨hg, rfl, hno⟩
                      refine kget_door no w w' _ X HX.out (HG9.out.kdr hg) ?_ ?_ <;> rfl
                    | ok p =>
                      obtain ⟨n0, r2⟩ := p
                      obtain ⟨hrl, hn0, hm4, hr8⟩ := rdMany_inv HG9.out.b8 HY.out.symm
                      replace hrl : r2.length ≤ r1.length := by rw [hrl]; simp
                      obtain ⟨m, rfl⟩ : ∃ m : Nat, n0 = (m : Int) := ⟨n0.toNat, by omega⟩
                      dsimp only at hcall
                      have HR8 := Lib.hid hr8; have HRL := Lib.hid hrl; have HX := Lib.hid hX
                      clear HY hr8 hn0 hrl hX
                      go_wp2_with fail
                      refine hcall.mono ?_
                      rintro e w' ⟨hg, rfl, hr⟩
                      have hne8 : rb ≠ T8 := by have := HEL.out.hrb; omega
                      have HB9 := Lib.hid (HB9.out.grown hg (fun h => hne8 (Option.some.inj h).symm))
                      have HG9 := Lib.hid (HG9.out.read hg hr HR8.out HRL.out)
                      clear hg hr hcall HR8 HRL hne8
                      by_cases hm0 : m = 0
                      · have hX : X = .error 3 := by rw [HX.out, hm0]; rfl
                        have HXE := Lib.hid hX
                        have hob := fun w => ought_bad (z := decide (0 < m)) (decide_eq_false (by omega)) 3 w
                        clear HX hX hm0 hm4
                        go_wp2_with fail
                        refine (hob _).mono ?_
                        rintro e w12 ⟨rfl, rfl⟩
                        refine kget_door 3 w w12 _ X HXE.out HG9.out.kd ?_ ?_ <;> rfl
                      · have hm1 : (0 : Int) < (m : Int) := by omega
                        have hX : X = K3 Lp (K4 k (M - (i + 1)) (C.map (·.1)) x (rdSls k m [] r2)) := by
                          rw [HX.out]; unfold K6; dsimp only; rw [if_pos hm1, Int.toNat_natCast]
                        have hoq := fun no w => ought_ok (z := decide (0 < m)) (decide_eq_true (by omega)) no w
                        clear HX hm0
                        have HX := Lib.hid hX; have HM1 := Lib.hid hm1
                        clear hX hm1
                        go_wp2_with fail
                        refine (hoq _ _).mono ?_
                        rintro e w12 ⟨rfl, rfl⟩
                        go_wp2_with fail
                        go_loopg [64] m (fun g v64 wr => ∃ (j : Nat) (S : List (Int × Int)) (sv : Value) (bs9 : List Int), v64 = .int .u64 (j : Int) ∧ j + g = m ∧ S.length = j ∧ GB w wr t4 rb lv cv lv cv L C bs9 ∧ Blk wr T8 #[.int .u64 x, sv] 55 ∧ wr.ownsRow (T8 + 1) 59 2 sv j (S.map slR).flatten ∧ X = K3 Lp (K4 k (M - (i + 1)) (C.map (·.1)) x (rdSls k (m - j) S bs9)))
                        case atStart => exact ⟨0, [], _, r2, rfl, by omega, rfl, HG9.out, HB9.out, ⟨rfl, .inl ⟨rfl, rfl⟩⟩, HX.out⟩
                        case round =>
                          clear HG9 HB9 HX
                          obtain ⟨j, S, sv, bs9, rfl, hjm, hSj, hG, hB, hO, hX⟩ := hrel
                          have HG := Lib.hid hG; have HB := Lib.hid hB; have HO := Lib.hid hO; have HX := Lib.hid hX
                          clear hG hB hO hX
                          by_cases hj : j < m
                          · have hj' : (j : Int) < (m : Int) := by omega
                            obtain ⟨Y, hY⟩ : ∃ Y, Y = rdNum bs9 := ⟨_, rfl⟩
                            have hnum := num_m rb bs9 0 wr HG.out.b8 HG.out.rd
                            simp only [stuck?, if_true] at hnum
                            have hX := HX.out
                            rw [show m - j = (m - (j + 1)) + 1 by omega, rdSls_num] at hX
                            rw [← hY] at hnum hX
                            have HY := Lib.hid hY
                            have q4 := HG.out.b4.cell 0 rfl
                            simp only [List.getElem_toArray, List.getElem_cons_zero] at q4
                            clear hY HX
                            cases Y with
                            | error no =>
                              have hno := rdNum_bad HY.out.symm
                              replace hX : X = .error no := hX
                              have hmu := fun v w => must_u64 v no w
                              simp only [if_neg hno] at hmu
                              have HX := Lib.hid hX
                              clear hX HY hno
                              go_wp2_with fail
                              refine hnum.mono ?_
                              rintro e w' ⟨hg, rfl, hr⟩
                              have HKD := Lib.hid (HG.out.kdr hg)
                              clear hg hr hnum q4
                              go_wp2_with fail
                              refine (hmu _ _).mono ?_
                              rintro e w10 ⟨rfl, rfl⟩
                              refine kget_door no w w10 _ X HX.out HKD.out ?_ ?_ <;> rfl
                            | ok p =>
                              obtain ⟨sq, r3⟩ := p
                              obtain ⟨hr8, hs64, hrl⟩ := rdNum_fine HG.out.b8 HY.out.symm
                              have HX := Lib.hid hX; have HR8 := Lib.hid hr8; have HRL := Lib.hid hrl; have HS64 := Lib.hid hs64
                              clear hX HY hr8 hrl hs64
                              go_wp2_with fail
                              refine hnum.mono ?_
                              rintro e w' ⟨hg, _, rfl, rfl, hr⟩
                              have hne8 : rb ≠ T8 := by have := HEL.out.hrb; omega
                              have HB1 := Lib.hid (HB.out.grown hg (fun h => hne8 (Option.some.inj h).symm))
                              have HO1 := Lib.hid (own_off HO.out (Chg.grown hg) (fun t ht hm => by have h1 := (own_type HO.out t ht).1; have := HEL.out.hrb; simp at hm; omega))
                              have HG1 := Lib.hid (HG.out.read hg hr HR8.out HRL.out)
                              clear hg hr hnum q4 hne8 HB HO HG HR8 HRL
                              go_wp2_with fail
                              refine (hmu _ _).mono ?_
                              rintro e w10 ⟨rfl, rfl⟩
                              go_upto_region 20 with fail
                              obtain ⟨T11, hT11⟩ : ∃ T, T = w10.heap.size := ⟨_, rfl⟩
                              rw [← hT11]
                              have hB11 := Blk.new w10 #[.int .u64 sq, .int .u64 0] 59
                              rw [← hT11] at hB11
                              have hE11 := Ext.alloc w10 (.cells #[.int .u64 sq, .int .u64 0] 59)
                              have h811 : T8 < T11 := by rw [hT11]; exact HB1.out.lt
                              have ho11 : ∀ t ∈ sv.ownBlock.toList, t < T11 := fun t ht => by rw [hT11]; exact own_lt HO1.out t ht
                              generalize w10.alloc (.cells #[.int .u64 sq, .int .u64 0] 59) = W11 at *
                              have HB11 := Lib.hid hB11; have H811 := Lib.hid h811; have HO11 := Lib.hid ho11
                              have HG2 := Lib.hid (HG1.out.ext' hE11); have HB2 := Lib.hid (HB1.out.ext hE11); have HO2 := Lib.hid (own_ext HO1.out hE11)
                              clear hB11 hE11 h811 ho11 hT11 HG1 HB1 HO1
                              by_cases hz : upTo (S.map (·.1)) sq = true
                              · have hX := HX.out
                                unfold K8 at hX
                                dsimp only at hX
                                rw [if_pos hz] at hX
                                clear HX
                                have HX := Lib.hid hX
                                clear hX
                                go_cut [64, 87] from 64 to 105 (fun v64 _v87 wx => v64 = .int .u64 (j : Int) ∧ Ext W11 wx)
                                case first =>
                                  have hoq := fun no w => ought_q no w
                                  by_cases hj0 : j = 0
                                  · have b0 : ((j : Int) == 0) = true := by subst hj0; rfl
                                    clear hj0 hz
                                    go_big_quiet (first | (go_at_call 35; refine Calls.quiet_of_same (hoq _ _)))
                                    go_wp2_with fail
                                    go_meet
                                    exact ⟨rfl, Ext.drewN _ _⟩
                                  · obtain ⟨j1, q, hij, hq, hle⟩ : ∃ (j1 : Nat) (q : Int × Int), j = j1 + 1 ∧ S[j1]? = some q ∧ q.1 < sq := by
                                      rcases List.eq_nil_or_concat S with hn | ⟨S0, q, hn⟩
                                      · subst hn; exact absurd hSj.symm hj0
                                      · rw [List.concat_eq_append] at hn
                                        refine ⟨S0.length, q, by rw [← hSj, hn]; simp, by rw [hn]; simp, ?_⟩
                                        rw [hn, List.map_append] at hz
                                        unfold upTo at hz
                                        simpa using hz
                                    obtain ⟨gs, cc, rfl, -, -, hgs⟩ := own_slice HO2.out
                                    obtain ⟨g, rfl⟩ := hgs hj0
                                    have c81 := HB2.out.cell 1 rfl; have c110 := HB11.out.cell 0 rfl
                                    have cj := own_cell HO2.out (j1 * 2) (show (S.map slR).flatten[j1 * 2]? = some (.int .u64 q.1) by
                                      rw [slot_flat S (j1 * 2) (by omega), show j1 * 2 / 2 = j1 by omega, show j1 * 2 % 2 = 0 by omega]
                                      have : S[j1]! = q := by rw [getElem!_def, hq]
                                      rw [this]; rfl)
                                    simp only [List.getElem_toArray, List.getElem_cons_zero, List.getElem_cons_succ] at c81 c110
                                    have hle' : sq > q.1 := hle
                                    have b0 : ((j : Int) == 0) = false := by have : ¬ (j : Int) = 0 := by omega
                                                                             simpa using this
                                    clear hz hq hle hj0 hgs
                                    generalize q.1 = y at *
                                    have hj1 : (j : Int) - 1 = (j1 : Int) := by omega
                                    have hi1 : (1 : Int) ≤ (j : Int) := by omega
                                    clear hij
                                    go_big_quiet (first | (go_at_call 35; refine Calls.quiet_of_same (hoq _ _)))
                                    go_wp2_with fail
                                    go_meet
                                    exact ⟨rfl, Ext.drewN _ _⟩
                                case rest =>
                                  obtain ⟨rfl, hE⟩ := hcut
                                  have HG3 := Lib.hid (HG2.out.ext' hE); have HB3 := Lib.hid (HB2.out.ext hE); have HO3 := Lib.hid (own_ext HO2.out hE); have HB113 := Lib.hid (HB11.out.ext hE)
                                  clear hE HG2 HB2 HO2 HB11 hz
                                  obtain ⟨Y, hY⟩ : ∃ Y, Y = rdNum r3 := ⟨_, rfl⟩
                                  have hnum := num_m rb r3 0 wc HG3.out.b8 HG3.out.rd
                                  simp only [stuck?, if_true] at hnum
                                  have hX := HX.out
                                  rw [← hY] at hnum hX
                                  have HY := Lib.hid hY
                                  have q4 := HG3.out.b4.cell 0 rfl
                                  simp only [List.getElem_toArray, List.getElem_cons_zero] at q4
                                  clear hY HX
                                  cases Y with
                                  | error no =>
                                    have hno := rdNum_bad HY.out.symm
                                    replace hX : X = .error no := hX
                                    have hmu := fun v w => must_u64 v no w
                                    simp only [if_neg hno] at hmu
                                    have HX := Lib.hid hX
                                    clear hX HY hno
                                    go_wp2_with fail
                                    refine hnum.mono ?_
                                    rintro e w' ⟨hg, rfl, hr⟩
                                    have HKD := Lib.hid (HG3.out.kdr hg)
                                    clear hg hr hnum q4
                                    go_wp2_with fail
                                    refine (hmu _ _).mono ?_
                                    rintro e w10 ⟨rfl, rfl⟩
                                    refine kget_door no w w10 _ X HX.out HKD.out ?_ ?_ <;> rfl
                                  | ok p =>
                                    obtain ⟨ix, r4⟩ := p
                                    obtain ⟨hr8, hi64, hrl⟩ := rdNum_fine HG3.out.b8 HY.out.symm
                                    have HX := Lib.hid hX; have HR8 := Lib.hid hr8; have HRL := Lib.hid hrl
                                    clear hX HY hr8 hrl hi64
                                    go_wp2_with fail
                                    refine hnum.mono ?_
                                    rintro e w' ⟨hg, _, rfl, rfl, hr⟩
                                    have hne8 : rb ≠ T8 := by have := HEL.out.hrb; omega
                                    have hne11 : rb ≠ T11 := by have := HEL.out.hrb; have := H811.out; omega
                                    have HB1 := Lib.hid (HB3.out.grown hg (fun h => hne8 (Option.some.inj h).symm))
                                    have HB12 := Lib.hid (HB113.out.grown hg (fun h => hne11 (Option.some.inj h).symm))
                                    have HO1 := Lib.hid (own_off HO3.out (Chg.grown hg) (fun t ht hm => by have h1 := (own_type HO3.out t ht).1; have := HEL.out.hrb; simp at hm; omega))
                                    have HG1 := Lib.hid (HG3.out.read hg hr HR8.out HRL.out)
                                    clear hg hr hnum q4 hne8 hne11 HB3 HO3 HG3 HB113 HR8 HRL
                                    have f11 := HB12.out.free 1; have q11 := HB12.out.cell 1 rfl
                                    simp only [List.getElem_toArray, List.getElem_cons_zero, List.getElem_cons_succ] at q11
                                    go_wp2_with fail
                                    refine (hmu _ _).mono ?_
                                    rintro e w10 ⟨rfl, rfl⟩
                                    go_upto_region 22 with fail
                                    have hC11 : Chg [T11] w10 (w10.setCell ⟨T11, 1, none⟩ (.int .u64 ix)) := Chg.set T11 1 _ (by simp)
                                    have hB11 := HB12.out.set 1 (.int .u64 ix)
                                    simp only [List.setIfInBounds_toArray, List.set_cons_zero, List.set_cons_succ] at hB11
                                    have hB8 := HB1.out.chg hC11 (by have := H811.out; simp; omega)
                                    have hO8 := own_off HO1.out hC11 (fun t ht hm => by have := HO11.out t ht; simp at hm; omega)
                                    have hG8 := HG1.out.young HEL.out hC11 (by intro t ht; simp at ht; have := H811.out; omega) (fun t ht cs hb => by simp at ht; subst ht; exact absurd (blk_type hb HB12.out) (by decide))
                                    generalize w10.setCell ⟨T11, 1, none⟩ (.int .u64 ix) = W12 at *
                                    have HB11 := Lib.hid hB11; have HB8 := Lib.hid hB8; have HO8 := Lib.hid hO8; have HG8 := Lib.hid hG8
                                    have q11 := hB11.cell 1 rfl
                                    simp only [List.getElem_toArray, List.getElem_cons_zero, List.getElem_cons_succ] at q11
                                    clear hC11 hB11 hB8 hO8 hG8 f11 HB12 HB1 HO1 HG1
                                    by_cases hlt : ix < (k : Int)
                                    · have hX : X = K3 Lp (K4 k (M - (i + 1)) (C.map (·.1)) x (rdSls k (m - (j + 1)) (S ++ [(sq, ix)]) r4)) := by rw [HX.out]; unfold K7; dsimp only; rw [if_pos hlt]
                                      have hoq := fun w => ought_q 3 w
                                      clear HX
                                      have HX := Lib.hid hX
                                      clear hX
                                      go_wp2_with fail
                                      refine (hoq _).mono ?_
                                      rintro e w13 ⟨rfl, rfl⟩
                                      obtain ⟨sa, sc, rfl, hs1, hs2, -⟩ := own_slice HO8.out
                                      have c81 := HB8.out.cell 1 rfl
                                      simp only [List.getElem_toArray, List.getElem_cons_zero, List.getElem_cons_succ] at c81
                                      clear q11 hlt
                                      go_wp2_with (first | (refine wpList_load_row rfl 59 (.tmp 11) rfl T11 rfl 59 _ (0, 0) _ HB11.out Try.underlying59 rfl (by kernel_rfl) ?_) | (at_builtin; refine wpList_push_row rfl (.tmp 100) (.tmp 102) _ rfl 2 16 Try.underlying53 infoSl rfl (by omega) (T8 + 1) _ j (S.map slR).flatten [.int .u64 sq, .int .u64 ix] rfl HO8.out rfl rfl (by simp [Value.oneCell']) (by omega) (by unfold maxLen; omega) (by have := HB8.out.lt; omega) rfl ?_; intro v' w' ho' hg'; have HO' := Lib.hid ho'; have HC' := Lib.hid (show Chg (Value.slice sa j sc).ownBlock.toList w13 w' from Chg.grown hg'); have hT := fun t (ht : t ∈ (Value.slice sa j sc).ownBlock.toList) => own_type HO8.out t ht; have hB' := HB8.out.chg HC'.out (fun hm => by have := (hT _ hm).1; omega); have HG' := Lib.hid (HG8.out.young HEL.out HC'.out (fun t ht => by have := (hT t ht).1; omega) (fun t ht cs hb => by obtain ⟨_, _, cur, h3⟩ := hT t ht; exact absurd (blk_type hb h3) (by decide))); have f81 := hB'.free 1; have q81 := hB'.cell 1 rfl; simp only [List.getElem_toArray, List.getElem_cons_zero, List.getElem_cons_succ] at q81; have HB' := Lib.hid hB'; (obtain ⟨va, vc, rfl, hv1, hv2, -⟩ := own_slice ho'); clear ho' hg' hT hB'))
                                      have hC8 : Chg [T8] w' (w'.setCell ⟨T8, 1, none⟩ (.slice va (j + 1) vc)) := Chg.set T8 1 _ (by simp)
                                      have hB8 := HB'.out.set 1 (.slice va (j + 1) vc)
                                      simp only [List.setIfInBounds_toArray, List.set_cons_zero, List.set_cons_succ] at hB8
                                      have hO8 := own_off HO'.out hC8 (fun t ht hm => by have := (own_type HO'.out t ht).1; simp at hm; omega)
                                      have hG8 := HG'.out.young HEL.out hC8 (by intro t ht; simp at ht; omega) (fun t ht cs hb => by simp at ht; subst ht; exact absurd (blk_type hb HB'.out) (by decide))
                                      go_roundg (m - (j + 1))
                                      case measure => omega
                                      case rel => exact ⟨j + 1, S ++ [(sq, ix)], _, r4, by go_num, by omega, by simp; omega, hG8, hB8, by simpa [slR] using hO8, HX.out⟩
                                    · have hX : X = .error 3 := by rw [HX.out]; unfold K7; dsimp only; rw [if_neg hlt]; rfl
                                      have hge : (k : Int) ≤ ix := by omega
                                      have HXE := Lib.hid hX
                                      have hob := fun w => ought_bad (z := decide (ix < (k : Int))) (decide_eq_false hlt) 3 w
                                      clear HX hX hlt
                                      go_wp2_with fail
                                      refine (hob _).mono ?_
                                      rintro e w13 ⟨rfl, rfl⟩
                                      refine kget_door 3 w w13 _ X HXE.out HG8.out.kd ?_ ?_ <;> rfl
                              · have hX : X = .error 3 := by rw [HX.out]; unfold K8; dsimp only; rw [if_neg hz]; rfl
                                obtain ⟨j1, q, hij, hq, hle⟩ : ∃ (j1 : Nat) (q : Int × Int), j = j1 + 1 ∧ S[j1]? = some q ∧ ¬ q.1 < sq := by
                                  rcases List.eq_nil_or_concat S with hn | ⟨S0, q, hn⟩
                                  · subst hn; exact absurd rfl hz
                                  · rw [List.concat_eq_append] at hn
                                    refine ⟨S0.length, q, by rw [← hSj, hn]; simp, by rw [hn]; simp, fun hlt => hz ?_⟩
                                    rw [hn, List.map_append]
                                    unfold upTo
                                    simp [hlt]
                                obtain ⟨gs, cc, rfl, -, -, hgs⟩ := own_slice HO2.out
                                obtain ⟨g, rfl⟩ := hgs (by omega)
                                have c81 := HB2.out.cell 1 rfl; have c110 := HB11.out.cell 0 rfl
                                have cj := own_cell HO2.out (j1 * 2) (show (S.map slR).flatten[j1 * 2]? = some (.int .u64 q.1) by
                                  rw [slot_flat S (j1 * 2) (by omega), show j1 * 2 / 2 = j1 by omega, show j1 * 2 % 2 = 0 by omega]
                                  have : S[j1]! = q := by rw [getElem!_def, hq]
                                  rw [this]; rfl)
                                simp only [List.getElem_toArray, List.getElem_cons_zero, List.getElem_cons_succ] at c81 c110
                                have hle' : sq ≤ q.1 := by omega
                                have b0 : ((j : Int) == 0) = false := by have : ¬ (j : Int) = 0 := by omega
                                                                         simpa using this
                                have HXE := Lib.hid hX
                                clear hX HX hz hq hle hgs
                                generalize q.1 = y at *
                                have hj1 : (j : Int) - 1 = (j1 : Int) := by omega
                                have hi1 : (1 : Int) ≤ (j : Int) := by omega
                                clear hij
                                apply Mono.region1 14 Ext [.is _, .is _, .is _, .is _, .is _, .is _, .is _, .is _, .is _, .is _, .is _, .is _, .is _, .is _] (by kernel_rfl) Ext.refl (fun _ _ _ => Ext.trans) (by kernel_rfl) rfl rfl trivial
                                focus
                                  iterate 14 (apply Mono.step_is; (· refine Mono.obl_mk fun w9 hE9 _ K hK => ?_; (have r0 := hE9.cell (show W11.drew.cell? _ = _ from c81)); (have r1 := hE9.cell (show W11.drew.cell? _ = _ from c110)); (have r2 := hE9.cell (show W11.drew.cell? _ = _ from cj)); clear hE9; go_wp2_with fail; simp only [Act.put, List.setIfInBounds_toArray, List.set_cons_succ, List.set_cons_zero] at hK; exact hK _ _ (Ext.refl _) (Mono.is_rfl _ _)); simp only [Act.put, List.setIfInBounds_toArray, List.set_cons_succ, List.set_cons_zero])
                                  refine Mono.step_end fun w11 hE11 hkn => ?_
                                  simp only [List.drop_succ_cons, List.drop_zero]
                                  have HKD := Lib.hid (HG2.out.ext' ((Ext.drew W11).trans hE11)).kd
                                  have hob := fun w => ought_bad (z := decide (y < sq)) (decide_eq_false (Int.not_lt.mpr hle')) 3 w
                                  clear hkn hE11 cj c81 c110 hmu
                                  go_wp2_with fail
                                  refine (hob _).mono ?_
                                  rintro e w12 ⟨rfl, rfl⟩
                                  refine kget_door 3 w w12 _ X HXE.out HKD.out ?_ ?_ <;> rfl
                          · have hge : (m : Int) ≤ (j : Int) := by omega
                            obtain rfl : j = m := by omega
                            have hX : X = K3 Lp (rdCls k (M - (i + 1)) (C.map (·.1) ++ [⟨x, S⟩]) bs9) := by
                              have := HX.out; rw [Nat.sub_self] at this; exact this
                            obtain ⟨sa, sc, rfl, hs1, hs2, -⟩ := own_slice HO.out
                            have hgm := Lib.hid hSj
                            clear HX hge hj hjm hoq
                            have HX := Lib.hid hX
                            have c21 := HG.out.b2.cell 1 rfl
                            simp only [List.getElem_toArray, List.getElem_cons_zero, List.getElem_cons_succ] at c21
                            obtain ⟨ca, cc, rfl, hc1, hc2, -⟩ := own_slice HG.out.co
                            rw [hCi] at c21 hc1
                            clear hX
                            go_wp2_with (first | (refine wpList_load_row rfl 55 (.tmp 8) rfl T8 rfl 55 _ (0, 0) _ HB.out Try.underlying55 rfl (by kernel_rfl) ?_) | (at_builtin; refine wpList_push_row rfl (.tmp 107) (.tmp 109) _ rfl 2 32 Try.underlying25 infoCl rfl (by omega) (rb + 1) _ i (C.map clR).flatten [.int .u64 x, .slice sa j sc] rfl (by rw [← hCi]; exact HG.out.co) rfl rfl (by simp [Value.oneCell']) (by omega) (by unfold maxLen; omega) (by have := rdr_lt HG.out.rd; omega) rfl ?_; intro v' w' ho' hg'; have HO' := Lib.hid ho'; have HG' := Lib.hid (HG.out.client (by rw [hgm.out]; exact HO.out) (by have := HEL.out.hw; omega) (by rw [hCi]; exact ho') (by rw [hCi]; exact hg')); have f21 := HG'.out.b2.free 1; have q21 := HG'.out.b2.cell 1 rfl; simp only [List.getElem_toArray, List.getElem_cons_zero, List.getElem_cons_succ] at q21; (obtain ⟨va, vc, rfl, hv1, hv2, -⟩ := own_slice ho'); clear ho' hg'))
                            have hP := HG'.out.put (lv1 := lv) (cv1 := .slice va (i + 1) vc) (W' := w'.setCell ⟨w.heap.size, 1, none⟩ (.slice va (i + 1) vc)) ⟨HG.out.one.1, by simp⟩ (Chg.set _ _ _ (by simp)) (by simpa using HG'.out.b2.set 1 (.slice va (i + 1) vc))
                            go_roundg (M - (i + 1))
                            case measure => omega
                            case rel => exact ⟨i + 1, C ++ [(⟨x, S⟩, .slice sa j sc)], _, bs9, by go_num, by omega, by simp; omega, hP, by rw [List.map_append]; exact HX.out⟩
                · have hX : X = .error 3 := by rw [HX.out]; unfold K5; rw [if_neg hz]; rfl
                  obtain ⟨j, q, hij, hq, hle⟩ : ∃ (j : Nat) (q : CQ), i = j + 1 ∧ C[j]? = some q ∧ ¬ q.1.id < x := by
                    rcases List.eq_nil_or_concat C with hn | ⟨C0, q, hn⟩
                    · subst hn; exact absurd rfl hz
                    · rw [List.concat_eq_append] at hn
                      refine ⟨C0.length, q, by rw [← hCi, hn]; simp, by rw [hn]; simp, fun hlt => hz ?_⟩
                      rw [hn, List.map_append, List.map_append]
                      unfold upTo
                      simp [hlt]
                  obtain ⟨gc, cc, rfl, -, -, hgc⟩ := own_slice HG8.out.co
                  obtain ⟨g, rfl⟩ := hgc (by omega)
                  have c21 := HG8.out.b2.cell 1 rfl; have c80 := HB8.out.cell 0 rfl
                  have cj := own_cell HG8.out.co (j * 2) (cl_get C j q hq).1
                  simp only [List.getElem_toArray, List.getElem_cons_zero, List.getElem_cons_succ] at c21 c80
                  have hle' : x ≤ q.1.id := by omega
                  have b0 : ((i : Int) == 0) = false := by have : ¬ (i : Int) = 0 := by omega
                                                           simpa using this
                  have HXE := Lib.hid hX
                  rw [hCi] at c21
                  clear hX HX hz hq hle
                  generalize q.1.id = y at *
                  have hj1 : (i : Int) - 1 = (j : Int) := by omega
                  have hi1 : (1 : Int) ≤ (i : Int) := by omega
                  clear hij
                  apply Mono.region1 14 Ext [.is _, .is _, .is _, .is _, .is _, .is _, .is _, .is _, .is _, .is _, .is _, .is _, .is _, .is _] (by kernel_rfl) Ext.refl (fun _ _ _ => Ext.trans) (by kernel_rfl) rfl rfl trivial
                  focus
                    iterate 14 (apply Mono.step_is; (· refine Mono.obl_mk fun w9 hE9 _ K hK => ?_; (have r0 := hE9.cell (show W8.drew.cell? _ = _ from c21)); (have r1 := hE9.cell (show W8.drew.cell? _ = _ from c80)); (have r2 := hE9.cell (show W8.drew.cell? _ = _ from cj)); clear hE9; go_wp2_with fail; simp only [Act.put, List.setIfInBounds_toArray, List.set_cons_succ, List.set_cons_zero] at hK; exact hK _ _ (Ext.refl _) (Mono.is_rfl _ _)); simp only [Act.put, List.setIfInBounds_toArray, List.set_cons_succ, List.set_cons_zero])
                    refine Mono.step_end fun w11 hE11 hkn => ?_
                    simp only [List.drop_succ_cons, List.drop_zero]
                    have HKD := Lib.hid (HG8.out.ext' ((Ext.drew W8).trans hE11)).kd
                    have hob := fun w => ought_bad (z := decide (y < x)) (decide_eq_false (Int.not_lt.mpr hle')) 3 w
                    clear hkn hE11 cj c80 c21 hmu
                    go_wp2_with fail
                    refine (hob _).mono ?_
                    rintro e w12 ⟨rfl, rfl⟩
                    refine kget_door 3 w w12 _ X HXE.out HKD.out ?_ ?_ <;> rfl
            · have hge : (M : Int) ≤ (i : Int) := by omega
              have hX0 := HX.out
              obtain rfl : i = M := by omega
              have hX : X = if bs' = [] then .ok ⟨Lp, C.map (·.1)⟩ else .error 5 := by
                rw [hX0, Nat.sub_self]; rfl
              clear HX hge hi hiM hX0
              have HXX := Lib.hid hX
              clear hX
              obtain ⟨la, lc, rfl, -, -, -⟩ := own_slice HG.out.lo
              obtain ⟨ca, cc, rfl, -, -, -⟩ := own_slice HG.out.co
              rw [hLk, hCi] at HG
              clear hCi hLk
              have hend := fun W h => end_m rb bs' 0 W h
              by_cases hbs : bs' = []
              · subst hbs
                have hX : X = .ok ⟨Lp, C.map (·.1)⟩ := by rw [HXX.out]; rfl
                clear HXX
                have HXE := Lib.hid hX
                have HEND := Lib.hid hend
                have hmu := fun v w => must_err v 0 w
                simp only [if_true] at hmu
                have HMU := Lib.hid hmu
                clear hX hend hmu
                go_upto_region 27 with fail
                apply Mono4.Chain.walk (fun c W' => False) 4 ⟨Ext, fun _ _ _ => True, fun _ W => GB w W t4 rb (.slice la k lc) (.slice ca i cc) (.slice la k lc) (.slice ca i cc) L C [], [2]⟩ [.is _, .is _, .is _, .is _] (by kernel_rfl) (fun c W W' h hE => h.ext' hE) (HG.out.ext' (Ext.drew _)) (by kernel_rfl) rfl rfl trivial (fun c b w' hc hdf hs => hc.elim)
                focus
                  apply Mono4.Chain.step_is
                  · refine Mono4.Chain.obl_quiet (by kernel_rfl) fun w9 c hlo hhi hst hkn K hK => ?_
                    have HB := Lib.hid hst.b2
                    clear hlo hhi hst hkn
                    go_wp2_with (first | (refine wpList_load_row rfl 27 (.tmp 2) rfl w.heap.size rfl 27 _ (0, 0) _ HB.out Try.underlying27 rfl (by kernel_rfl) ?_))
                    simp only [Act.put, List.setIfInBounds_toArray, List.set_cons_succ, List.set_cons_zero] at hK ⊢
                    exact hK _ _ (Ext.refl _) (Mono4.is_rfl _ _)
                  simp only [Act.put, List.setIfInBounds_toArray, List.set_cons_succ, List.set_cons_zero]
                  apply Mono4.Chain.step_is
                  · refine Mono4.Chain.obl_quiet (by kernel_rfl) fun w9 c hlo hhi hst hkn K hK => ?_
                    have q4 := hst.b4.cell 0 rfl
                    simp only [List.getElem_toArray, List.getElem_cons_zero] at q4
                    clear hlo hhi hst hkn
                    go_wp2_with fail
                    simp only [Act.put, List.setIfInBounds_toArray, List.set_cons_succ, List.set_cons_zero] at hK
                    exact hK _ _ (Ext.refl _) (Mono4.is_rfl _ _)
                  simp only [Act.put, List.setIfInBounds_toArray, List.set_cons_succ, List.set_cons_zero]
                  apply Mono4.Chain.step_is
                  · refine Mono4.Chain.obl_loud 0 (by kernel_rfl) (by kernel_rfl) (by kernel_rfl) fun w9 hst hkn K hK => ?_
                    have HG9 := Lib.hid hst
                    clear hst hkn
                    go_wp2_with fail
                    refine (HEND.out _ HG9.out.rd).mono ?_
                    rintro e w10 ⟨rfl, hg, hr⟩
                    have HE10 := Lib.hid (HG9.out.read hg hr (fun x hx => by cases hx) (Nat.le_refl _))
                    clear hg hr
                    go_wp2_with fail
                    simp only [Act.put, List.setIfInBounds_toArray, List.set_cons_succ, List.set_cons_zero] at hK
                    exact hK _ _ trivial HE10.out (Mono4.is_rfl _ _)
                  simp only [Act.put, List.setIfInBounds_toArray, List.set_cons_succ, List.set_cons_zero]
                  apply Mono4.Chain.step_is
                  · refine Mono4.Chain.obl_quiet (by kernel_rfl) fun w9 c hlo hhi hst hkn K hK => ?_
                    clear hlo hhi hst hkn
                    go_wp2_with fail
                    refine (HMU.out _ _).mono ?_
                    rintro e w10 ⟨rfl, rfl⟩
                    go_wp2_with fail
                    simp only [Act.put, List.setIfInBounds_toArray, List.set_cons_succ, List.set_cons_zero] at hK
                    exact hK _ _ (Ext.refl _) (Mono4.is_rfl _ _)
                  simp only [Act.put, List.setIfInBounds_toArray, List.set_cons_succ, List.set_cons_zero]
                  refine Mono4.Chain.step_end fun w9 hst hkn => ?_
                  simp only [List.drop_succ_cons, List.drop_zero]
                  have HG9 := Lib.hid (show GB w w9 t4 rb (.slice la k lc) (.slice ca i cc) (.slice la k lc) (.slice ca i cc) L C [] from hst)
                  clear hst hkn
                  go_wp2_with (first | (refine wpList_store_row rfl 27 (.tmp 2) (.tmp 113) rfl w.heap.size #[.slice la k lc, .slice ca i cc] rfl rfl 27 _ HG9.out.b2 (book_size _ _) rfl (by simp [Value.oneCell']) ?_; have hC2 : Chg [w.heap.size] w9 (w9.setRow w.heap.size #[.slice la k lc, .slice ca i cc]) := Chg.some (grown_rowS w9 w.heap.size _) (.inl (by simp)); have HG10 := Lib.hid (HG9.out.put (lv1 := .slice la k lc) (cv1 := .slice ca i cc) ⟨by simp, by simp⟩ hC2 (setRow_heap w9 w.heap.size _ _ _ (0, 0) HG9.out.b2)); generalize w9.setRow w.heap.size #[.slice la k lc, .slice ca i cc] = W10 at *; have f30 := HG10.out.b3.free 0; have q30 := HG10.out.b3.cell 0 rfl; simp only [List.getElem_toArray, List.getElem_cons_zero] at q30; clear hC2))
                  have hC3 : Chg [w.heap.size + 1] W10 (W10.setCell ⟨w.heap.size + 1, 0, none⟩ (.int .i64 0)) := Chg.set _ _ _ (by simp)
                  refine kget_fin (.slice la k lc) (.slice ca i cc) ⟨Lp, C.map (·.1)⟩ w _ _ X HXE.out (((Chg.ext HG10.out.ext : Chg [w.heap.size + 1] w W10).trans hC3).toExt (fun t ht => by simp at ht; omega)) (HG10.out.b2.chg hC3 (by simp)) (by simpa using HG10.out.b3.set 0 (.int .i64 0)) (by rw [HLP.out]; exact HG10.out.book3 hC3) ?_ ?_ <;> rfl
              · have hX : X = .error 5 := by rw [HXX.out, if_neg hbs]
                have HXE := Lib.hid hX
                have hee : endE 0 bs' = 5 := by unfold endE; rw [if_pos ⟨rfl, hbs⟩]
                rw [hee] at hend
                have HEND := Lib.hid hend
                have hmu := fun v w => must_err v 5 w
                simp only [show ¬ (5 : Int) = 0 by decide, if_false] at hmu
                have HMU := Lib.hid hmu
                clear hX hend hmu HXX hbs hee
                go_upto_region 27 with fail
                apply Mono4.Chain.walk (fun c W' => c = [{ v := errv 5, recovered := false }] ∧ KD w W') 4 ⟨Ext, fun _ _ _ => True, fun c W => GE w W t4 rb (.slice la k lc) (.slice ca i cc) ∧ (c = 0 → GB w W t4 rb (.slice la k lc) (.slice ca i cc) (.slice la k lc) (.slice ca i cc) L C bs'), [2]⟩ [.is _, .is _, .is _, .rel (fun _ _ => False)] (by kernel_rfl) (fun c W W' h hE => ⟨h.1.ext' hE, fun hc => (h.2 hc).ext' hE⟩) ⟨(HG.out.ext' (Ext.drew _)).ge, fun _ => HG.out.ext' (Ext.drew _)⟩ (by kernel_rfl) rfl rfl
                  ⟨⟨fun _ _ _ h _ => h, fun _ _ _ _ _ _ h _ => h⟩, trivial⟩
                  (fun c b w' hc hdf hs => (by obtain ⟨rfl, hd⟩ := hc; obtain ⟨bt, bd⟩ := b; cases hdf; exact kget_door 5 w w' bt X HXE.out hd ((hs 2 (by kernel_rfl)).trans rfl) ((hs 3 (by kernel_rfl)).trans rfl)))
                focus
                  apply Mono4.Chain.step_is
                  · refine Mono4.Chain.obl_quiet (by kernel_rfl) fun w9 c hlo hhi hst hkn K hK => ?_
                    have HB := Lib.hid hst.1.b2
                    clear hlo hhi hst hkn
                    go_wp2_with (first | (refine wpList_load_row rfl 27 (.tmp 2) rfl w.heap.size rfl 27 _ (0, 0) _ HB.out Try.underlying27 rfl (by kernel_rfl) ?_))
                    simp only [Act.put, List.setIfInBounds_toArray, List.set_cons_succ, List.set_cons_zero] at hK ⊢
                    exact hK _ _ (Ext.refl _) (Mono4.is_rfl _ _)
                  simp only [Act.put, List.setIfInBounds_toArray, List.set_cons_succ, List.set_cons_zero]
                  apply Mono4.Chain.step_is
                  · refine Mono4.Chain.obl_quiet (by kernel_rfl) fun w9 c hlo hhi hst hkn K hK => ?_
                    have q4 := hst.1.b4.cell 0 rfl
                    simp only [List.getElem_toArray, List.getElem_cons_zero] at q4
                    clear hlo hhi hst hkn
                    go_wp2_with fail
                    simp only [Act.put, List.setIfInBounds_toArray, List.set_cons_succ, List.set_cons_zero] at hK
                    exact hK _ _ (Ext.refl _) (Mono4.is_rfl _ _)
                  simp only [Act.put, List.setIfInBounds_toArray, List.set_cons_succ, List.set_cons_zero]
                  apply Mono4.Chain.step_is
                  · refine Mono4.Chain.obl_loud 0 (by kernel_rfl) (by kernel_rfl) (by kernel_rfl) fun w9 hst hkn K hK => ?_
                    have HG9 := Lib.hid (hst.2 rfl)
                    clear hst hkn
                    go_wp2_with fail
                    refine (HEND.out _ HG9.out.rd).mono ?_
                    rintro e w10 ⟨rfl, hg, hr⟩
                    have HE10 := Lib.hid (HG9.out.ger hg)
                    clear hg hr
                    go_wp2_with fail
                    simp only [Act.put, List.setIfInBounds_toArray, List.set_cons_succ, List.set_cons_zero] at hK
                    exact hK _ _ trivial ⟨HE10.out, fun h => by cases h⟩ (Mono4.is_rfl _ _)
                  simp only [Act.put, List.setIfInBounds_toArray, List.set_cons_succ, List.set_cons_zero]
                  refine Mono4.Chain.step_rel (Mono4.Chain.obl_at 1 (by kernel_rfl) (by kernel_rfl) (by kernel_rfl) fun w9 hst hkn K hK => ?_) fun v27 => ?_
                  · have hd := hst.1.kd
                    clear hst hkn
                    go_wp2_with fail
                    refine (HMU.out _ _).mono ?_
                    rintro e w10 ⟨rfl, rfl⟩
                    exact ⟨rfl, hd⟩
                  simp only [Act.put, List.setIfInBounds_toArray, List.set_cons_succ, List.set_cons_zero]
                  exact Mono4.Chain.step_end fun w9 hst hkn => hkn.1.elim
end Go.Proofs.Ytgefphfnicjbiaa
