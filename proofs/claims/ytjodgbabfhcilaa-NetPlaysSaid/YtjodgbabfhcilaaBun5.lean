/- Parts of the proof, in plain words at the head of each: Rget, Mr3, MsgL, Tk. -/
import Derived.Test.YtjodgbabfhcilaaRrd2
import Derived.Test.YtjodgbabfhcilaaBun4
import Derived.Test.YtjodgbabfhcilaaGet
set_option linter.unusedSimpArgs false
set_option linter.unusedVariables false
/- tabellionref12.Get. -/
namespace Go.Proofs.Ytjodgbabfhcilaa
open Go Go.RowKit

theorem rdEnt_err {bs : List Int} {e : Int} (h : rdEnt bs = .error e) : e ≠ 0 := by
  simp only [rdEnt] at h
  repeat' split at h
  all_goals first | (cases h; done) | (cases h; first | decide | (rename_i heq; first | exact rdNum_err' heq | exact rdByte_err' heq | exact rdRaw_err' heq | exact rdIds_err' _ _ _ _ heq))
/-- How the reference's Get ends. -/
def RGetOut (X : Except Int Ent) (w : World) (en : Ending) (w' : World) : Prop :=
  Ext w w' ∧ ∃ v e x, en = .returned (.tuple #[v, .int .i64 e]) ∧ (EntV w' v x ∧ EntNew w v) ∧ match X with
  | .error no => e = no ∧ x = ⟨0, 0, 0, 0, [], []⟩
  | .ok y => e = 0 ∧ x = y

theorem heap_size_alloc2 (w : World) (o o' : Obj) : ((w.alloc o).alloc o').heap.size = w.heap.size + 2 := by simp
theorem ext_six {w W : World} (h : Ext w W) (u0 u1 u2 u3 u4 u5 : Value) :
    Ext w ((((((W.setCell ⟨w.heap.size, 0, none⟩ u0).setCell ⟨w.heap.size, 1, none⟩ u1).setCell ⟨w.heap.size, 2, none⟩ u2).setCell ⟨w.heap.size, 3, none⟩ u3).setCell ⟨w.heap.size, 4, none⟩ u4).setCell ⟨w.heap.size, 5, none⟩ u5) := by
  show Below w.heap.size w _
  repeat (refine Below.setCell ?_ (by simp) _)
  exact h

end Go.Proofs.Ytjodgbabfhcilaa

/- msg.reader: entries. -/
namespace Go.Proofs.Ytjodgbabfhcilaa
open Go Go.RowKit

def rdEntsGo : Nat → List Ent → List Int → Except Int (List Ent × List Int)
  | 0, acc, bs => .ok (acc, bs)
  | n + 1, acc, bs => match rdRaw 128 bs with
    | .error e => .error e
    | .ok (d, r) => match getB d with
      | .error e => .error e
      | .ok x => rdEntsGo n (acc ++ [x]) r
def rdEnts (bs : List Int) : Except Int (List Ent × List Int) :=
  match rdNum bs with
  | .error e => .error e
  | .ok (n, r) => if 4 < n then .error 4 else rdEntsGo n.toNat [] r
theorem infoEnt : (Try.prog.info? 67).map (fun i => (i.zero, i.size, i.bytes)) = some (some (.agg #[.int .u64 0, .int .i64 0, .int .u64 0, .int .u64 0, .slice none 0 0, .slice none 0 0]), 6, 80) := by kernel_rfl

theorem getB_err {bs : List Int} {e : Int} (h : getB bs = .error e) : e ≠ 0 := by
  simp only [getB] at h
  split at h
  · rename_i heq; cases h; exact rdEnt_err heq
  · split at h
    · cases h
    · cases h; decide
/-- The new element's cells. -/
def NewE (B : Nat) (E : TypeId) (cs : Array Value) (v : Value) (w : World) : Prop := ∃ g, v = .slice (some ⟨g, 0, none⟩) 1 1 ∧ B ≤ g ∧ Blk w g cs E
def OwnE (w0 B : Nat) (E : TypeId) (o : Option Nat) (n : Nat) (cs : List Value) (v : Value) (w : World) : Prop := w.ownsRow B E 6 v n cs ∧ (v.ownBlock = o ∨ ∃ q, v.ownBlock = some q ∧ w0 ≤ q)
theorem newE_chg {S : List Nat} {B : Nat} {E : TypeId} {cs : Array Value} {v : Value} {w w' : World} (h : NewE B E cs v w) (hg : Chg S w w') (hS : ∀ t ∈ S, t < B) : NewE B E cs v w' := by
  obtain ⟨g, hv, hb, hB⟩ := h
  exact ⟨g, hv, hb, hB.chg hg fun hm => by have := hS _ hm; omega⟩
theorem ownE_ext {w0 B : Nat} {E : TypeId} {o : Option Nat} {n : Nat} {cs : List Value} {v : Value} {w w' : World} (h : OwnE w0 B E o n cs v w) (hE : Ext w w') : OwnE w0 B E o n cs v w' := ⟨own_ext h.1 hE, h.2⟩

set_option maxHeartbeats 8000000 in
theorem rentsM (b mb j : Nat) (T : TypeId) (cs : Array Value) (bs : List Int) (w : World) (hb8 : B8 bs) (hl : bs.length ≤ 140737488355328) (hr : Rdr w b bs 0) (hm : Blk w mb cs T) (hj : cs[j]? = some (.slice none 0 0)) (hne : mb ≠ b) (hnu : ∀ c ∈ cs, ∀ y, c ≠ .int .u8 y) :
    Calls Try.prog 84 #[.agg #[ptr b], .pointer (some ⟨mb, j, none⟩)] w (RM b mb j T cs (fun xs v w' => EntsV w' w.heap.size v xs ∧ EntsU w' v) (rdEnts bs) w) := by
  obtain ⟨X, hX⟩ : ∃ X, X = rdEnts bs := ⟨_, rfl⟩
  rw [← hX]
  have hltb := rdr_lt hr
  have hltm := hm.lt
  have hjs : j < cs.size := (Array.getElem?_eq_some_iff.1 hj).1
  have hE0 := Ext.alloc w (.cells #[ptr b] 92)
  have hX0 : Blk (w.alloc (.cells #[ptr b] 92)) w.heap.size #[ptr b] 92 := Blk.new _ _ _
  have HX := Lib.hid hX; have HR := Lib.hid hr; have HM := Lib.hid hm; have HJ := Lib.hid hj; have HE0 := Lib.hid hE0; have HX0 := Lib.hid hX0
  clear hX hr hm hj hE0 hX0
  go_enter Try.func84, Try.ntmps84
  go_wp2_with fail
  refine (num_m b bs 0 _ hb8 (HR.out.ext HE0.out)).mono ?_
  rintro en w1 ⟨hg, hm⟩
  simp only [stuck?, if_true] at hm
  have hC1 : Chg [b, mb] w w1 := (Chg.ext HE0.out).trans (Chg.some hg (.inl (by simp)))
  have hM1 : Blk w1 mb cs T := (HM.out.ext HE0.out).grown hg (by intro e; exact hne (Option.some.inj e))
  have hX1' : Blk w1 w.heap.size #[ptr b] 92 := HX0.out.grown hg (by intro e; have := Option.some.inj e; omega)
  have HC1 := Lib.hid hC1; have HM1 := Lib.hid hM1; have HBX := Lib.hid hX1'
  clear hg hC1 hM1 hX1'
  cases hY : rdNum bs with
  | error no =>
    rw [hY] at hm
    obtain ⟨rfl, _⟩ := hm
    have HX1 : Hid (X = .error no) := Lib.hid (by rw [HX.out]; simp [rdEnts, hY])
    have hn0 : ¬ no = 0 := rdNum_err hY
    clear hY
    go_wp2_with fail
    refine (mmust_c no w1).mono ?_
    rintro en w2 ⟨rfl, he⟩
    rw [if_neg hn0] at he
    subst he
    refine ⟨rfl, HC1.out, ?_⟩
    rw [HX1.out]
    exact ⟨rfl, cs, HM1.out, rfl⟩
  | ok y =>
    obtain ⟨n, r⟩ := y
    rw [hY] at hm
    obtain ⟨_, rfl, rfl, hr1⟩ := hm
    obtain ⟨h8, ⟨hu0, hu1⟩, hlr⟩ := rdNum_b8 hb8 hY
    have HY := Lib.hid hY; have HR1 := Lib.hid hr1; have H8 := Lib.hid h8
    clear hY hr1 h8
    go_wp2_with fail
    refine (mmust_c 0 w1).mono ?_
    rintro en w2 ⟨rfl, he⟩
    rw [if_pos rfl] at he
    subst he
    by_cases hin : 4 < n
    · have HX1 : Hid (X = .error 4) := Lib.hid (by rw [HX.out]; simp [rdEnts, HY.out, hin])
      go_wp2_with fail
      rw [show decide (n ≤ 4) = false from decide_eq_false (by omega)]
      refine (mought_c false 4 w2).mono ?_
      rintro en w3 ⟨rfl, he⟩
      subst he
      refine ⟨rfl, HC1.out, ?_⟩
      rw [HX1.out]
      exact ⟨rfl, cs, HM1.out, rfl⟩
    · have h2 : n ≤ 4 := by omega
      obtain ⟨N, rfl⟩ := Int.eq_ofNat_of_zero_le hu0
      have HX1 : Hid (X = rdEntsGo N [] r) := Lib.hid (by rw [HX.out]; simp [rdEnts, HY.out, hin])
      clear hin
      go_wp2_with fail
      refine (mought_c true 4 w2).mono ?_
      rintro en w3 ⟨rfl, he⟩
      subst he
      have hBb : b < w3.heap.size := rdr_lt HR1.out
      have hBm : mb < w3.heap.size := HM1.out.lt
      have hwB : w.heap.size < w3.heap.size := HBX.out.lt
      have hN7 : N ≤ 4 := by omega
      have hcs0 : cs.setIfInBounds j (.slice none 0 0) = cs := by
        apply Array.ext_getElem?
        intro i
        by_cases hij : j = i
        · subst hij; rw [Array.getElem?_setIfInBounds_self_of_lt hjs, HJ.out]
        · rw [Array.getElem?_setIfInBounds_ne hij]
      have HCS := Lib.hid hcs0
      clear hcs0
      go_wp2_with fail
      go_loopg [21] N (fun g i wr => ∃ (k : Nat) (acc : List Ent) (s : List Int) (mv : Value) (cells : List Value), k + g = N ∧ i = .int .u64 (k : Int) ∧ Chg [b, mb] w wr ∧ Rdr wr b s 0 ∧ Blk wr w.heap.size #[ptr b] 92 ∧ Blk wr mb (cs.setIfInBounds j mv) T ∧ wr.ownsRow w3.heap.size 67 6 mv acc.length cells ∧ ECU wr w3.heap.size mv.ownBlock acc cells ∧ acc.length = k ∧ w3.heap.size ≤ wr.heap.size ∧ B8 s ∧ s.length ≤ 140737488355328 ∧ rdEntsGo (N - k) acc s = X)
      case atStart => exact ⟨0, [], r, .slice none 0 0, [], by omega, rfl, HC1.out, HR1.out, HBX.out, by rw [HCS.out]; exact HM1.out, World.ownsRow_nil _ _ _ _, ECU.nil, rfl, Nat.le_refl _, H8.out, by omega, HX1.out.symm⟩
      case round =>
        obtain ⟨k, acc, s, mv, cells, hk, rfl, hC, hR, hBX, hM, ho, hec, hlen, hsz, h8, hls, hd⟩ := hrel
        have HC := Lib.hid hC; have HRR := Lib.hid hR; have HBXX := Lib.hid hBX; have HMM := Lib.hid hM; have HO := Lib.hid ho; have H88 := Lib.hid h8; have HD := Lib.hid hd; have HEC := Lib.hid hec
        have cx := hBX.cell 0 rfl
        clear hC hR hBX hM ho h8 hd hec
        by_cases hlt : k < N
        · obtain ⟨M, hM⟩ : ∃ M, N - k = M + 1 := ⟨N - k - 1, by omega⟩
          go_wp2_with fail
          refine (raw_m b s 0 128 wr H88.out hls (by omega) HRR.out).mono ?_
          rintro en w4 ⟨hg4, hm4⟩
          simp only [stuck?, if_true] at hm4
          have hown : ∀ q, mv.ownBlock = some q → w3.heap.size ≤ q := own_block HO.out
          have HC4 := Lib.hid (HC.out.trans (Chg.some hg4 (.inl (by simp))))
          have HM4 := Lib.hid (HMM.out.grown hg4 (by intro e; exact hne (Option.some.inj e)))
          have HBX4 := Lib.hid (HBXX.out.grown hg4 (by intro e; have := Option.some.inj e; omega))
          have HO4 := Lib.hid (own_growR HO.out hg4 hBb)
          have HEC4 := Lib.hid (HEC.out.chg (Chg.grown hg4) (by intro t ht; simp at ht; subst ht; exact .inl hBb))
          have hsz4 : w3.heap.size ≤ w4.heap.size := Nat.le_trans hsz hg4.size
          clear hg4 cx
          cases hY4 : rdRaw 128 s with
          | error no =>
            rw [hY4] at hm4
            obtain ⟨rfl, _⟩ := hm4
            have HX2 : Hid (X = .error no) := Lib.hid (by rw [← HD.out, hM]; simp [rdEntsGo, hY4])
            have hn0 : ¬ no = 0 := rdRaw_err hY4
            clear hY4
            go_wp2_with fail
            refine (mmust_c no w4).mono ?_
            rintro en w5 ⟨rfl, he⟩
            rw [if_neg hn0] at he
            subst he
            refine ⟨rfl, HC4.out, ?_⟩
            rw [HX2.out]
            exact ⟨rfl, _, HM4.out, by simp⟩
          | ok y4 =>
            obtain ⟨d, s4⟩ := y4
            rw [hY4] at hm4
            obtain ⟨dv, rfl, hdv, hr4⟩ := hm4
            obtain ⟨h84, h8d, hl4, hld⟩ := rdRaw_b8 H88.out hY4
            obtain ⟨da, dn, dc, rfl⟩ := Rd.shape hdv.1
            have HDV := Lib.hid hdv
            have HR4 := Lib.hid hr4; have H84 := Lib.hid h84; have H8D := Lib.hid h8d; have HY4 := Lib.hid hY4
            clear hY4 hr4 h84 h8d hdv
            go_wp2_with fail
            refine (mmust_c 0 w4).mono ?_
            rintro en w5 ⟨rfl, he⟩
            rw [if_pos rfl] at he
            subst he
            go_wp2_with fail
            refine (get_c _ d w5 HDV.out.1 H8D.out (by omega)).mono ?_
            rintro en w6 ⟨hE6, xv, xe, x, rfl, ⟨hxv, hxn, hxu⟩, hxo⟩
            have HC6 := Lib.hid (HC4.out.trans (Chg.ext hE6)); have HM6 := Lib.hid (HM4.out.ext hE6); have HBX6 := Lib.hid (HBX4.out.ext hE6); have HO6 := Lib.hid (own_ext HO4.out hE6); have HR6 := Lib.hid (HR4.out.ext hE6)
            have HEC6 := Lib.hid (HEC4.out.chg (S := []) (Chg.ext hE6) (by simp))
            have hsz6 : w3.heap.size ≤ w6.heap.size := Nat.le_trans hsz4 hE6.size
            have h56 := hE6.size
            clear hE6
            obtain ⟨a4, n4, c4, a5, n5, c5, rfl⟩ := hxv.shape
            obtain ⟨dv', mv', hag, hxd, hxm⟩ := hxv
            obtain ⟨_, _, _, _, dv'', mv'', hag2, hfd, hfm⟩ := hxn
            obtain ⟨_, _, _, _, dv3, mv3, hag3, hud, hum⟩ := hxu
            cases hag; cases hag2; cases hag3
            have HXD := Lib.hid hxd; have HXM := Lib.hid hxm; have HFD : Hid (From w5.heap.size (.slice a4 n4 c4)) := Lib.hid hfd; have HFM : Hid (From w5.heap.size (.slice a5 n5 c5)) := Lib.hid hfm
            have HUD : Hid (UnA w6 (.slice a4 n4 c4)) := Lib.hid hud; have HUM : Hid (UnA w6 (.slice a5 n5 c5)) := Lib.hid hum
            clear hxd hxm hfd hfm hud hum
            go_upto_region 9 with fail
            have HX7 := Lib.hid (Blk.new w6 #[.int .u64 x.term, .int .i64 x.kind, .int .u64 x.client, .int .u64 x.seq, .slice a4 n4 c4, .slice a5 n5 c5] 67)
            have hE7 := Ext.alloc w6 (.cells #[.int .u64 x.term, .int .i64 x.kind, .int .u64 x.client, .int .u64 x.seq, .slice a4 n4 c4, .slice a5 n5 c5] 67)
            generalize w6.alloc (.cells #[.int .u64 x.term, .int .i64 x.kind, .int .u64 x.client, .int .u64 x.seq, .slice a4 n4 c4, .slice a5 n5 c5] 67) = w7 at *
            have HC7 := Lib.hid (HC6.out.trans (Chg.ext hE7)); have HM7 := Lib.hid (HM6.out.ext hE7); have HBX7 := Lib.hid (HBX6.out.ext hE7); have HO7 := Lib.hid (own_ext HO6.out hE7); have HR7 := Lib.hid (HR6.out.ext hE7)
            have HEC7 := Lib.hid (HEC6.out.chg (S := []) (Chg.ext hE7) (by simp))
            have HXD7 := Lib.hid (HXD.out.ext hE7); have HXM7 := Lib.hid (HXM.out.ext hE7); have HUD7 := Lib.hid (HUD.out.ext hE7); have HUM7 := Lib.hid (HUM.out.ext hE7)
            have hsz7 : w3.heap.size ≤ w7.heap.size := Nat.le_trans hsz6 hE7.size
            have h67 := hE7.size
            clear hE7
            cases hZ : getB d with
            | error no =>
              rw [hZ] at hxo
              obtain ⟨rfl, _⟩ := hxo
              have HX2 : Hid (X = .error xe) := Lib.hid (by rw [← HD.out, hM]; simp [rdEntsGo, HY4.out, hZ])
              have hn0 : ¬ xe = 0 := getB_err hZ
              clear hZ
              go_wp2_with fail
              refine (mmust_c xe w7).mono ?_
              rintro en w8 ⟨rfl, he⟩
              rw [if_neg hn0] at he
              subst he
              refine ⟨rfl, HC7.out, ?_⟩
              rw [HX2.out]
              exact ⟨rfl, _, HM7.out, by simp⟩
            | ok x' =>
              rw [hZ] at hxo
              obtain ⟨rfl, rfl⟩ := hxo
              have HX2 : Hid (rdEntsGo (N - (k + 1)) (acc ++ [x]) s4 = X) := Lib.hid (by rw [← HD.out, hM, show N - (k + 1) = M by omega]; simp [rdEntsGo, HY4.out, hZ])
              clear hZ
              go_wp2_with fail
              refine (mmust_c 0 w7).mono ?_
              rintro en w8 ⟨rfl, he⟩
              rw [if_pos rfl] at he
              subst he
              obtain ⟨ei, eh, ez, es, eb⟩ := info_parts infoEnt
              obtain ⟨ma, mn, mc, rfl⟩ := own_shape HO7.out
              obtain ⟨rowb, hrowb⟩ : ∃ o, o = (Value.slice ma mn mc).ownBlock := ⟨_, rfl⟩
              have hown2 : ∀ t ∈ rowb.toList, w3.heap.size ≤ t := by
                intro t ht
                rw [hrowb] at ht
                cases hmv : (Value.slice ma mn mc).ownBlock with
                | none => rw [hmv] at ht; cases ht
                | some q => rw [hmv] at ht; simp at ht; subst ht; exact hown _ hmv
              have hown3 : ∀ t ∈ rowb.toList, t < w5.heap.size := by
                intro t ht
                rw [hrowb] at ht
                cases hmv : (Value.slice ma mn mc).ownBlock with
                | none => rw [hmv] at ht; cases ht
                | some q => rw [hmv] at ht; simp at ht; subst ht; exact (HO4.out.lt _ hmv).2
              have HROW := Lib.hid hrowb
              have h85 : w5.heap.size ≤ w8.heap.size := Nat.le_trans h56 h67
              have hn1 : ∀ q, q < w3.heap.size → q ∉ rowb.toList := fun q hq hm => by have := hown2 _ hm; omega
              have hn2 : w6.heap.size ∉ rowb.toList := fun hm => by have := hown3 _ hm; omega
              clear hrowb
              go_upto_region 10 with fail
              apply Mono.region2 7 6 Ext (Chg rowb.toList) [.is _, .is _, .is _, .is _, .is _, .rel (NewE w8.heap.size 67 #[.int .u64 x.term, .int .i64 x.kind, .int .u64 x.client, .int .u64 x.seq, .slice a4 n4 c4, .slice a5 n5 c5]), .rel (OwnE w8.heap.size w3.heap.size 67 rowb (acc.length + 1) (cells ++ eCells x (.slice a4 n4 c4) (.slice a5 n5 c5)))] (by kernel_rfl) ⟨fun _ _ h => Chg.ext h, fun _ _ _ => Ext.trans, fun _ _ _ => Chg.trans⟩ (Ext.refl _) (by kernel_rfl) rfl rfl ⟨fun v wa wb hv hE => newE_chg hv hE (fun t ht => Nat.lt_of_lt_of_le (hown3 t ht) h85), fun v wa wb hv hE => ownE_ext hv hE, trivial⟩
              focus
                iterate 5 (apply Mono.step_is; (· refine Mono.obl_quiet (by decide) fun w9 hE9 _ K hK => ?_; (have cm := (HM7.out.drew.chg hE9 (hn1 _ hBm)).cell j (u := .slice ma mn mc) (by simp [hjs])); (obtain ⟨c0, c1, c2, c3, c4', c5'⟩ := (HX7.out.drew.chg hE9 hn2).six); go_wp2_with fail; simp only [Act.put, List.setIfInBounds_toArray, List.set_cons_succ, List.set_cons_zero] at hK; exact hK _ _ (Ext.refl _) (Mono.is_rfl _ _)); simp only [Act.put, List.setIfInBounds_toArray, List.set_cons_succ, List.set_cons_zero])
                refine Mono.step_rel (Mono.obl_quiet (by decide) fun w9 hE9 _ K hK => ?_) fun v43 => ?_
                · go_wp2_with fail
                  simp only [Act.put, List.setIfInBounds_toArray, List.set_cons_succ, List.set_cons_zero] at hK
                  exact hK _ _ (Ext.alloc _ _) (Mono.rel_mk ⟨_, rfl, hE9.size, Blk.new _ _ _⟩)
                simp only [Act.put, List.setIfInBounds_toArray, List.set_cons_succ, List.set_cons_zero]
                refine Mono.step_rel (Mono.obl_loud fun w9 hE9 hkn K hK => ?_) fun v44 => ?_
                · obtain ⟨g5, rfl, hg5, hb5⟩ := hkn.1 (by kernel_rfl)
                  refine wpList_append_own_at w9 rfl (.tmp 41) (.tmp 43) _ rfl w3.heap.size 67 ei _ 6 80 Try.underlying30 eh ez es eb rfl (by decide) (.slice ma mn mc) acc.length cells rfl (own_ext HO7.out.drew hE9) ⟨g5, 0, none⟩ 1 1 (eCells x (.slice a4 n4 c4) (.slice a5 n5 c5)) rfl rfl (fun i u hi => by rw [Addr.add_lit, Nat.zero_add]; exact hb5.cell i (by simpa [eCells] using hi)) (by intro u hu; simp [eCells] at hu; rcases hu with rfl | rfl | rfl | rfl | rfl | rfl <;> rfl) (by unfold maxLen; omega) (by omega) (Nat.le_trans hsz7 hE9.size) fun v' w' g1 g2 _ g4 => ?_
                  simp only [Act.put, List.setIfInBounds_toArray, List.set_cons_succ, List.set_cons_zero] at hK
                  rw [← HROW.out] at g2 g4
                  exact hK _ _ (Chg.grown g2) (Mono.rel_mk ⟨g1, g4.imp id fun h => ⟨_, h, hE9.size⟩⟩)
                simp only [Act.put, List.setIfInBounds_toArray, List.set_cons_succ, List.set_cons_zero]
                refine Mono.step_end fun w9 hE9 hkn => ?_
                obtain ⟨_, ⟨ho9, hq9⟩, _⟩ := hkn
                simp only [List.drop_succ_cons, List.drop_zero]
                replace hE9 : Chg rowb.toList w8 w9 := Chg.drew.trans hE9
                have hx8 : LV w8 w3.heap.size rowb (.slice a4 n4 c4) (u8s x.data) := ⟨HXD7.out, HFD.out.mono hsz4, HFD.out.off hown3⟩
                have hm8 : LV w8 w3.heap.size rowb (.slice a5 n5 c5) (u64s x.members) := ⟨HXM7.out, HFM.out.mono hsz4, HFM.out.off hown3⟩
                have hec8 := HEC7.out
                rw [← HROW.out] at hec8
                have hec9 := (hec8.push hx8 HUD7.out hm8 HUM7.out).step hE9 hq9
                have hR9 := HR7.out.chg hE9 (hn1 _ hBb) (fun v _ hF a n c hv _ hm => by have := hF a n c hv; have := hown2 _ hm; omega)
                have hM9 := HM7.out.chg hE9 (hn1 _ hBm)
                have hBX9 := HBX7.out.chg hE9 (hn1 _ hwB)
                have hC9 : Chg [b, mb] w w9 := HC7.out.trans' hE9 fun t ht => .inr (by have := hown2 _ ht; omega)
                have hs9 : w3.heap.size ≤ w9.heap.size := Nat.le_trans hsz7 hE9.size
                obtain ⟨a9, n9, c9, rfl⟩ := own_shape ho9
                have cm := hM9.cell j (u := .slice ma mn mc) (by simp [hjs])
                have fm := hM9.free j
                have hM10 := hM9.set j (.slice a9 n9 c9)
                rw [set_set] at hM10
                have hR10 := hR9.setM hM9 (nu_set hnu j (by intro y e; cases e)) hne j (.slice a9 n9 c9)
                have hC10 := hC9.setNew mb j (.slice a9 n9 c9) (.inl (by simp))
                have hg10 : Chg [mb] w9 (w9.setCell ⟨mb, j, none⟩ (.slice a9 n9 c9)) := Chg.set mb j _ (by simp)
                have ho10 := own_chg ho9 hg10 (by intro t ht; simp at ht; subst ht; exact .inl hBm)
                have hec10 := hec9.chg hg10 (by intro t ht; simp at ht; subst ht; exact .inl hBm)
                have hBX10 := hBX9.other ⟨mb, j, none⟩ (.slice a9 n9 c9) (by simp; omega)
                have hs10 : w3.heap.size ≤ (w9.setCell ⟨mb, j, none⟩ (.slice a9 n9 c9)).heap.size := by simpa [World.setCell] using hs9
                have HM10 := Lib.hid hM10; have HR10 := Lib.hid hR10; have HC10 := Lib.hid hC10; have HO10 := Lib.hid ho10; have HEC10 := Lib.hid hec10; have HBX10 := Lib.hid hBX10; have HS10 := Lib.hid hs10
                clear hM10 hR10 hC10 ho10 hec10 hBX10 hs10 hec9 hec8 hM9 hBX9 hR9 hC9 hx8 hm8 hE9 hg10 ho9 hq9
                go_wp2_with fail
                go_roundg M
                case rel => exact ⟨k + 1, acc ++ [x], s4, _, _, by omega, rfl, HC10.out, HR10.out, HBX10.out, HM10.out, by simpa using HO10.out, HEC10.out, by simp [hlen], HS10.out, H84.out, by omega, HX2.out⟩
                case measure => omega
        · have hkN : k = N := by omega
          have HX2 : Hid (X = .ok (acc, s)) := Lib.hid (by rw [← HD.out, hkN]; simp [rdEntsGo])
          go_wp2_with fail
          go_end0
          refine ⟨HC.out, ?_⟩
          rw [HX2.out]
          exact ⟨rfl, HRR.out, mv, ⟨EntsV.low (EntsV.own HO.out (Nat.le_refl _) HEC.out.1) (Nat.le_of_lt hwB), EntsU.own HO.out HEC.out.2⟩, HMM.out⟩
end Go.Proofs.Ytjodgbabfhcilaa

/- Plain words for messages. No program. -/
namespace Go.Proofs.Ytjodgbabfhcilaa
open Go Go.RowKit

structure Msg where
  kind : Int
  src : Int
  dst : Int
  term : Int
  index : Int
  logTerm : Int
  commit : Int
  stamp : Int
  yes : Bool
  entries : List Ent
  members : List Int
  image : List Int

def maxT : Int := 4611686018427387904
def maxU : Int := 18446744073709551615
/-- What is read behind the kind. -/
def rdBody (k : Int) (bs : List Int) : Except Int (Msg × List Int) :=
  match rdRng 1 7 bs with
  | .error e => .error e
  | .ok (f, r) => match rdRng 1 7 r with
  | .error e => .error e
  | .ok (t, r) => match rdRng 1 4611686018427387904 r with
  | .error e => .error e
  | .ok (m, r) =>
    if k = 1 then match rdRng 0 4611686018427387904 r with
      | .error e => .error e
      | .ok (i, r) => match rdRng 0 4611686018427387904 r with
      | .error e => .error e
      | .ok (l, r) => .ok (⟨k, f, t, m, i, l, 0, 0, false, [], [], []⟩, r)
    else if k = 2 then match rdYes r with
      | .error e => .error e
      | .ok (y, r) => .ok (⟨k, f, t, m, 0, 0, 0, 0, y, [], [], []⟩, r)
    else if k = 3 then match rdRng 0 4611686018427387904 r with
      | .error e => .error e
      | .ok (i, r) => match rdRng 0 4611686018427387904 r with
      | .error e => .error e
      | .ok (l, r) => match rdRng 0 4611686018427387904 r with
      | .error e => .error e
      | .ok (c, r) => match rdRng 0 18446744073709551615 r with
      | .error e => .error e
      | .ok (s, r) => match rdEnts r with
      | .error e => .error e
      | .ok (xs, r) => .ok (⟨k, f, t, m, i, l, c, s, false, xs, [], []⟩, r)
    else if k = 4 then match rdYes r with
      | .error e => .error e
      | .ok (y, r) => match rdRng 0 4611686018427387904 r with
      | .error e => .error e
      | .ok (i, r) => match rdRng 0 18446744073709551615 r with
      | .error e => .error e
      | .ok (s, r) => .ok (⟨k, f, t, m, i, 0, 0, s, y, [], [], []⟩, r)
    else if k = 5 then match rdRng 0 4611686018427387904 r with
      | .error e => .error e
      | .ok (i, r) => match rdRng 0 4611686018427387904 r with
      | .error e => .error e
      | .ok (l, r) => match rdRng 0 18446744073709551615 r with
      | .error e => .error e
      | .ok (s, r) => match idsB r with
      | .error e => .error e
      | .ok (ms, r) => match rdRaw 16384 r with
      | .error e => .error e
      | .ok (d, r) => .ok (⟨k, f, t, m, i, l, 0, s, false, [], ms, d⟩, r)
    else .error 3
/-- The message that bytes are. -/
def getM (bs : List Int) : Except Int Msg :=
  match rdByte bs with
  | .error e => .error e
  | .ok (k, r) => if k < 1 ∨ 5 < k then .error 3 else match rdBody k r with
    | .error e => .error e
    | .ok (m, r) => if r = [] then .ok m else .error 5
def mCells (m : Msg) (ev mv iv : Value) : Array Value :=
  #[.int .i64 m.kind, .int .u64 m.src, .int .u64 m.dst, .int .u64 m.term, .int .u64 m.index, .int .u64 m.logTerm, .int .u64 m.commit, .int .u64 m.stamp, .bool m.yes, ev, mv, iv]
end Go.Proofs.Ytjodgbabfhcilaa

/- tabellionref18.taker. -/
namespace Go.Proofs.Ytjodgbabfhcilaa
open Go Go.RowKit

def tErr : Except Int (List Int) → Int
  | .error e => e
  | .ok _ => 0
def nextS {α : Type} (s : Except Int (List Int)) (f : List Int → Except Int (α × List Int)) : Except Int (List Int) :=
  match s with
  | .error e => .error e
  | .ok r => match f r with
    | .error e => .error e
    | .ok (_, r') => .ok r'
end Go.Proofs.Ytjodgbabfhcilaa
