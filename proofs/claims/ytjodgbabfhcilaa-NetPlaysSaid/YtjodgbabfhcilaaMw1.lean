/- msg.walk over a reader. PRINTED BY gen/walkr.py -/
import Derived.Test.YtjodgbabfhcilaaBun5
set_option linter.unusedSimpArgs false
set_option linter.unusedVariables false
namespace Go.Proofs.Ytjodgbabfhcilaa
open Go Go.RowKit
theorem nul_of_rng {cs : Array Value} (h : ∀ c ∈ cs.toList, ∀ y, c ≠ .int .u8 y) : ∀ c ∈ cs, ∀ y, c ≠ .int .u8 y := fun c hc => h c (by simpa using hc)
theorem rdRng_b8 {lo hi : Int} {bs r : List Int} {n : Int} (hb : B8 bs) (hl : bs.length ≤ 140737488355328) (h : rdRng lo hi bs = .ok (n, r)) : B8 r ∧ r.length ≤ 140737488355328 := by
  simp only [rdRng] at h
  split at h
  · cases h
  · rename_i heq
    split at h
    · cases h
    · cases h
      obtain ⟨h1, _, h2⟩ := rdNum_b8 hb heq
      exact ⟨h1, by omega⟩
theorem rdYes_b8 {bs r : List Int} {y : Bool} (hb : B8 bs) (hl : bs.length ≤ 140737488355328) (h : rdYes bs = .ok (y, r)) : B8 r ∧ r.length ≤ 140737488355328 := by
  simp only [rdYes] at h
  split at h
  · cases h
  · rename_i heq
    split at h
    · cases h
    · cases h
      obtain ⟨h1, _, h2⟩ := rdByte_b8 hb heq
      exact ⟨h1, by omega⟩
theorem rdIds_b8 : ∀ (n : Nat) (acc bs ms r : List Int), B8 bs → rdIds n acc bs = .ok (ms, r) → B8 r ∧ r.length ≤ bs.length
  | 0, acc, bs, ms, r, hb, h => by simp [rdIds] at h; obtain ⟨_, rfl⟩ := h; exact ⟨hb, Nat.le_refl _⟩
  | n + 1, acc, bs, ms, r, hb, h => by
    simp only [rdIds] at h
    split at h
    · cases h
    · rename_i heq
      obtain ⟨h1, _, h2⟩ := rdNum_b8 hb heq
      split at h
      · obtain ⟨h3, h4⟩ := rdIds_b8 n _ _ _ _ h1 h; exact ⟨h3, by omega⟩
      · cases h
theorem idsB_b8 {bs r ms : List Int} (hb : B8 bs) (hl : bs.length ≤ 140737488355328) (h : idsB bs = .ok (ms, r)) : B8 r ∧ r.length ≤ 140737488355328 := by
  simp only [idsB] at h
  split at h
  · cases h
  · rename_i heq
    split at h
    · cases h
    · obtain ⟨h1, _, h2⟩ := rdNum_b8 hb heq
      obtain ⟨h3, h4⟩ := rdIds_b8 _ _ _ _ _ h1 h
      exact ⟨h3, by omega⟩
/-- How a walk over a reader ends. -/
def WOut (b mb : Nat) (X : Except Int (Msg × List Int)) (w : World) (en : Ending) (w' : World) : Prop :=
  Chg [b, mb] w w' ∧ match X with
  | .error no => en = thrown no ∧ ∃ cs', Blk w' mb cs' 34 ∧ cs'.size = 12
  | .ok (m, r) => en = .returned (.tuple #[]) ∧ Rdr w' b r 0 ∧ ∃ ev mv iv, Blk w' mb (mCells m ev mv iv) 34 ∧ (EntsV w' w.heap.size ev m.entries ∧ EntsU w' ev) ∧ (Rd w' mv (u64s m.members) ∧ From w.heap.size mv ∧ UnA w' mv) ∧ (Rd w' iv (u8s m.image) ∧ From w.heap.size iv ∧ UnA w' iv)
theorem WOut.err {b mb : Nat} {X : Except Int (Msg × List Int)} {no : Int} {w w' : World} {cs : Array Value} (hX : X = .error no) (hC : Chg [b, mb] w w') (hB : Blk w' mb cs 34) (hs : cs.size = 12) : WOut b mb X w (thrown no) w' := by
  subst hX; exact ⟨hC, rfl, cs, hB, hs⟩
theorem WOut.ok {b mb : Nat} {X : Except Int (Msg × List Int)} {m : Msg} {r : List Int} {en : Ending} {w w' : World} {ev mv iv : Value} (hX : X = .ok (m, r)) (he : en = .returned (.tuple #[])) (hC : Chg [b, mb] w w') (hR : Rdr w' b r 0) (hB : Blk w' mb (mCells m ev mv iv) 34)
    (h1 : EntsV w' w.heap.size ev m.entries ∧ EntsU w' ev) (h2 : Rd w' mv (u64s m.members) ∧ From w.heap.size mv ∧ UnA w' mv) (h3 : Rd w' iv (u8s m.image) ∧ From w.heap.size iv ∧ UnA w' iv) : WOut b mb X w en w' := by
  subst hX; exact ⟨hC, he, hR, ev, mv, iv, hB, h1, h2, h3⟩

theorem nilR_num (b : Nat) (w : World) : (nilAhead 247 92 (.agg #[ptr b]) "tabellion/msg.num").run Try.prog w = .ok (some false) w := by kernel_rfl
theorem metR_num (b : Nat) (w : World) : (method 231 92 (.agg #[ptr b]) "tabellion/msg.num").run Try.prog w = .ok (87, .agg #[ptr b]) w := by kernel_rfl
theorem nilR_yes (b : Nat) (w : World) : (nilAhead 247 92 (.agg #[ptr b]) "tabellion/msg.yes").run Try.prog w = .ok (some false) w := by kernel_rfl
theorem metR_yes (b : Nat) (w : World) : (method 231 92 (.agg #[ptr b]) "tabellion/msg.yes").run Try.prog w = .ok (88, .agg #[ptr b]) w := by kernel_rfl
theorem nilR_entries (b : Nat) (w : World) : (nilAhead 247 92 (.agg #[ptr b]) "tabellion/msg.entries").run Try.prog w = .ok (some false) w := by kernel_rfl
theorem metR_entries (b : Nat) (w : World) : (method 231 92 (.agg #[ptr b]) "tabellion/msg.entries").run Try.prog w = .ok (84, .agg #[ptr b]) w := by kernel_rfl
theorem nilR_members (b : Nat) (w : World) : (nilAhead 247 92 (.agg #[ptr b]) "tabellion/msg.members").run Try.prog w = .ok (some false) w := by kernel_rfl
theorem metR_members (b : Nat) (w : World) : (method 231 92 (.agg #[ptr b]) "tabellion/msg.members").run Try.prog w = .ok (86, .agg #[ptr b]) w := by kernel_rfl
theorem nilR_image (b : Nat) (w : World) : (nilAhead 247 92 (.agg #[ptr b]) "tabellion/msg.image").run Try.prog w = .ok (some false) w := by kernel_rfl
theorem metR_image (b : Nat) (w : World) : (method 231 92 (.agg #[ptr b]) "tabellion/msg.image").run Try.prog w = .ok (85, .agg #[ptr b]) w := by kernel_rfl

set_option maxRecDepth 100000 in
set_option maxHeartbeats 16000000 in
theorem walkR (k : Int) (b mb : Nat) (r1 : List Int) (w : World) (hb8 : B8 r1) (hl1 : r1.length ≤ 140737488355328) (hr : Rdr w b r1 0) (hne : mb ≠ b)
    (hm : Blk w mb #[.int .i64 k, .int .u64 0, .int .u64 0, .int .u64 0, .int .u64 0, .int .u64 0, .int .u64 0, .int .u64 0, .bool false, .slice none 0 0, .slice none 0 0, .slice none 0 0] 34) :
    Calls Try.prog 34 #[.iface 92 (.agg #[ptr b]), ptr mb] w (WOut b mb (rdBody k r1) w) := by
  obtain ⟨X, hX⟩ : ∃ X, X = rdBody k r1 := ⟨_, rfl⟩
  rw [← hX]
  have hltb := rdr_lt hr
  have hltm := hm.lt
  have hmf : ∀ (fn : Fn) (first cap : Array Value) (w : World), (Instr.makeFunc fn first cap).run Try.prog w = .ok (.func fn first cap) w := fun _ _ _ _ => rfl
  have nr_num := nilR_num b; have mr_num := metR_num b
  have nr_yes := nilR_yes b; have mr_yes := metR_yes b
  have nr_entries := nilR_entries b; have mr_entries := metR_entries b
  have nr_members := nilR_members b; have mr_members := metR_members b
  have nr_image := nilR_image b; have mr_image := metR_image b
  have HX := Lib.hid hX; have HR1 := Lib.hid hr; have HM1 := Lib.hid hm; have H8_1 := Lib.hid hb8; have HC1 := Lib.hid (Chg.refl [b, mb] w)
  clear hX hr hm hb8
  go_enter Try.func34, Try.ntmps34
  go_wp2_with fail
  apply Mono.region1 7 Ext [.is _, .is _, .is _, .is _, .is _, .is _, .is _] (by kernel_rfl) Ext.refl (fun _ _ _ => Ext.trans) (by kernel_rfl) rfl rfl trivial
  focus
    iterate 7 (apply Mono.step_is; (· refine Mono.obl_mk fun w3 hE3 _ K hK => ?_; go_wp2_with fail; simp only [Act.put, List.setIfInBounds_toArray, List.set_cons_succ, List.set_cons_zero] at hK; exact hK _ _ (Ext.refl _) (Mono.is_rfl _ _)); simp only [Act.put, List.setIfInBounds_toArray, List.set_cons_succ, List.set_cons_zero])
    refine Mono.step_end fun v1 hE1 _ => ?_
    simp only [List.drop_succ_cons, List.drop_zero]
    replace hE1 := (Ext.drew _).trans hE1
    have JR1 := Lib.hid (HR1.out.ext hE1); have JM1 := Lib.hid (HM1.out.ext hE1); have JC1 := Lib.hid (HC1.out.trans (Chg.ext hE1))
    clear hE1
    go_wp2_with fail
    refine (rnumM b mb 1 34 #[.int .i64 k, .int .u64 0, .int .u64 0, .int .u64 0, .int .u64 0, .int .u64 0, .int .u64 0, .int .u64 0, .bool false, .slice none 0 0, .slice none 0 0, .slice none 0 0] _ 1 7 r1 v1 H8_1.out JR1.out JM1.out rfl hne (nul_of_rng (by simp))).mono ?_
    rintro en w2 ⟨hC, hm⟩
    have HC2 := Lib.hid (JC1.out.trans hC)
    clear hC
    rcases hY : rdRng 1 7 r1 with no | ⟨f, r2⟩
    · rw [hY] at hm
      obtain ⟨rfl, cs, hB, hs⟩ := hm
      have HZ : Hid (X = .error no) := Lib.hid (by rw [HX.out]; simp [rdBody, hY])
      clear hY
      have HB := Lib.hid hB; have HS := Lib.hid hs; clear hB hs
      go_wp2_with fail
      exact ⟨rfl, WOut.err HZ.out HC2.out HB.out (by rw [HS.out]; rfl)⟩
    rw [hY] at hm
    obtain ⟨rfl, hr, _, rfl, hM⟩ := hm
    simp only [List.setIfInBounds_toArray, List.set_cons_succ, List.set_cons_zero] at hM
    have HY1 := Lib.hid hY; have HR2 := Lib.hid hr; have HM2 := Lib.hid hM
    obtain ⟨h8, hl2⟩ := rdRng_b8 H8_1.out hl1 hY; have H8_2 := Lib.hid h8; clear h8
    clear hY hr hM
    go_wp2_with fail
    apply Mono.region1 7 Ext [.is _, .is _, .is _, .is _, .is _, .is _, .is _] (by kernel_rfl) Ext.refl (fun _ _ _ => Ext.trans) (by kernel_rfl) rfl rfl trivial
    focus
      iterate 7 (apply Mono.step_is; (· refine Mono.obl_mk fun w3 hE3 _ K hK => ?_; go_wp2_with fail; simp only [Act.put, List.setIfInBounds_toArray, List.set_cons_succ, List.set_cons_zero] at hK; exact hK _ _ (Ext.refl _) (Mono.is_rfl _ _)); simp only [Act.put, List.setIfInBounds_toArray, List.set_cons_succ, List.set_cons_zero])
      refine Mono.step_end fun v2 hE2 _ => ?_
      simp only [List.drop_succ_cons, List.drop_zero]
      replace hE2 := (Ext.drew _).trans hE2
      have JR2 := Lib.hid (HR2.out.ext hE2); have JM2 := Lib.hid (HM2.out.ext hE2); have JC2 := Lib.hid (HC2.out.trans (Chg.ext hE2))
      clear hE2
      go_wp2_with fail
      refine (rnumM b mb 2 34 #[.int .i64 k, .int .u64 f, .int .u64 0, .int .u64 0, .int .u64 0, .int .u64 0, .int .u64 0, .int .u64 0, .bool false, .slice none 0 0, .slice none 0 0, .slice none 0 0] _ 1 7 r2 v2 H8_2.out JR2.out JM2.out rfl hne (nul_of_rng (by simp))).mono ?_
      rintro en w3 ⟨hC, hm⟩
      have HC3 := Lib.hid (JC2.out.trans hC)
      clear hC
      rcases hY : rdRng 1 7 r2 with no | ⟨t, r3⟩
      · rw [hY] at hm
        obtain ⟨rfl, cs, hB, hs⟩ := hm
        have HZ : Hid (X = .error no) := Lib.hid (by rw [HX.out]; simp [rdBody, HY1.out, hY])
        clear hY
        have HB := Lib.hid hB; have HS := Lib.hid hs; clear hB hs
        go_wp2_with fail
        exact ⟨rfl, WOut.err HZ.out HC3.out HB.out (by rw [HS.out]; rfl)⟩
      rw [hY] at hm
      obtain ⟨rfl, hr, _, rfl, hM⟩ := hm
      simp only [List.setIfInBounds_toArray, List.set_cons_succ, List.set_cons_zero] at hM
      have HY2 := Lib.hid hY; have HR3 := Lib.hid hr; have HM3 := Lib.hid hM
      obtain ⟨h8, hl3⟩ := rdRng_b8 H8_2.out hl2 hY; have H8_3 := Lib.hid h8; clear h8
      clear hY hr hM
      go_wp2_with fail
      apply Mono.region1 7 Ext [.is _, .is _, .is _, .is _, .is _, .is _, .is _] (by kernel_rfl) Ext.refl (fun _ _ _ => Ext.trans) (by kernel_rfl) rfl rfl trivial
      focus
        iterate 7 (apply Mono.step_is; (· refine Mono.obl_mk fun w3 hE3 _ K hK => ?_; go_wp2_with fail; simp only [Act.put, List.setIfInBounds_toArray, List.set_cons_succ, List.set_cons_zero] at hK; exact hK _ _ (Ext.refl _) (Mono.is_rfl _ _)); simp only [Act.put, List.setIfInBounds_toArray, List.set_cons_succ, List.set_cons_zero])
        refine Mono.step_end fun v3 hE3 _ => ?_
        simp only [List.drop_succ_cons, List.drop_zero]
        replace hE3 := (Ext.drew _).trans hE3
        have JR3 := Lib.hid (HR3.out.ext hE3); have JM3 := Lib.hid (HM3.out.ext hE3); have JC3 := Lib.hid (HC3.out.trans (Chg.ext hE3))
        clear hE3
        go_wp2_with fail
        refine (rnumM b mb 3 34 #[.int .i64 k, .int .u64 f, .int .u64 t, .int .u64 0, .int .u64 0, .int .u64 0, .int .u64 0, .int .u64 0, .bool false, .slice none 0 0, .slice none 0 0, .slice none 0 0] _ 1 4611686018427387904 r3 v3 H8_3.out JR3.out JM3.out rfl hne (nul_of_rng (by simp))).mono ?_
        rintro en w4 ⟨hC, hm⟩
        have HC4 := Lib.hid (JC3.out.trans hC)
        clear hC
        rcases hY : rdRng 1 4611686018427387904 r3 with no | ⟨m, r4⟩
        · rw [hY] at hm
          obtain ⟨rfl, cs, hB, hs⟩ := hm
          have HZ : Hid (X = .error no) := Lib.hid (by rw [HX.out]; simp [rdBody, HY1.out, HY2.out, hY])
          clear hY
          have HB := Lib.hid hB; have HS := Lib.hid hs; clear hB hs
          go_wp2_with fail
          exact ⟨rfl, WOut.err HZ.out HC4.out HB.out (by rw [HS.out]; rfl)⟩
        rw [hY] at hm
        obtain ⟨rfl, hr, _, rfl, hM⟩ := hm
        simp only [List.setIfInBounds_toArray, List.set_cons_succ, List.set_cons_zero] at hM
        have HY3 := Lib.hid hY; have HR4 := Lib.hid hr; have HM4 := Lib.hid hM
        obtain ⟨h8, hl4⟩ := rdRng_b8 H8_3.out hl3 hY; have H8_4 := Lib.hid h8; clear h8
        clear hY hr hM
        have ck := HM4.out.cell 0 rfl
        by_cases hk1 : k = 1
        · subst hk1
          go_wp2_with fail
          clear ck
          apply Mono.region1 7 Ext [.is _, .is _, .is _, .is _, .is _, .is _, .is _] (by kernel_rfl) Ext.refl (fun _ _ _ => Ext.trans) (by kernel_rfl) rfl rfl trivial
          focus
            iterate 7 (apply Mono.step_is; (· refine Mono.obl_mk fun w3 hE3 _ K hK => ?_; go_wp2_with fail; simp only [Act.put, List.setIfInBounds_toArray, List.set_cons_succ, List.set_cons_zero] at hK; exact hK _ _ (Ext.refl _) (Mono.is_rfl _ _)); simp only [Act.put, List.setIfInBounds_toArray, List.set_cons_succ, List.set_cons_zero])
            refine Mono.step_end fun v4 hE4 _ => ?_
            simp only [List.drop_succ_cons, List.drop_zero]
            replace hE4 := (Ext.drew _).trans hE4
            have JR4 := Lib.hid (HR4.out.ext hE4); have JM4 := Lib.hid (HM4.out.ext hE4); have JC4 := Lib.hid (HC4.out.trans (Chg.ext hE4))
            clear hE4
            go_wp2_with fail
            refine (rnumM b mb 4 34 #[.int .i64 1, .int .u64 f, .int .u64 t, .int .u64 m, .int .u64 0, .int .u64 0, .int .u64 0, .int .u64 0, .bool false, .slice none 0 0, .slice none 0 0, .slice none 0 0] _ 0 4611686018427387904 r4 v4 H8_4.out JR4.out JM4.out rfl hne (nul_of_rng (by simp))).mono ?_
            rintro en w5 ⟨hC, hm⟩
            have HC5 := Lib.hid (JC4.out.trans hC)
            clear hC
            rcases hY : rdRng 0 4611686018427387904 r4 with no | ⟨i, r5⟩
            · rw [hY] at hm
              obtain ⟨rfl, cs, hB, hs⟩ := hm
              have HZ : Hid (X = .error no) := Lib.hid (by rw [HX.out]; simp [rdBody, HY1.out, HY2.out, HY3.out, hY])
              clear hY
              have HB := Lib.hid hB; have HS := Lib.hid hs; clear hB hs
              go_wp2_with fail
              exact ⟨rfl, WOut.err HZ.out HC5.out HB.out (by rw [HS.out]; rfl)⟩
            rw [hY] at hm
            obtain ⟨rfl, hr, _, rfl, hM⟩ := hm
            simp only [List.setIfInBounds_toArray, List.set_cons_succ, List.set_cons_zero] at hM
            have HY4 := Lib.hid hY; have HR5 := Lib.hid hr; have HM5 := Lib.hid hM
            obtain ⟨h8, hl5⟩ := rdRng_b8 H8_4.out hl4 hY; have H8_5 := Lib.hid h8; clear h8
            clear hY hr hM
            go_wp2_with fail
            apply Mono.region1 7 Ext [.is _, .is _, .is _, .is _, .is _, .is _, .is _] (by kernel_rfl) Ext.refl (fun _ _ _ => Ext.trans) (by kernel_rfl) rfl rfl trivial
            focus
              iterate 7 (apply Mono.step_is; (· refine Mono.obl_mk fun w3 hE3 _ K hK => ?_; go_wp2_with fail; simp only [Act.put, List.setIfInBounds_toArray, List.set_cons_succ, List.set_cons_zero] at hK; exact hK _ _ (Ext.refl _) (Mono.is_rfl _ _)); simp only [Act.put, List.setIfInBounds_toArray, List.set_cons_succ, List.set_cons_zero])
              refine Mono.step_end fun v5 hE5 _ => ?_
              simp only [List.drop_succ_cons, List.drop_zero]
              replace hE5 := (Ext.drew _).trans hE5
              have JR5 := Lib.hid (HR5.out.ext hE5); have JM5 := Lib.hid (HM5.out.ext hE5); have JC5 := Lib.hid (HC5.out.trans (Chg.ext hE5))
              clear hE5
              go_wp2_with fail
              refine (rnumM b mb 5 34 #[.int .i64 1, .int .u64 f, .int .u64 t, .int .u64 m, .int .u64 i, .int .u64 0, .int .u64 0, .int .u64 0, .bool false, .slice none 0 0, .slice none 0 0, .slice none 0 0] _ 0 4611686018427387904 r5 v5 H8_5.out JR5.out JM5.out rfl hne (nul_of_rng (by simp))).mono ?_
              rintro en w6 ⟨hC, hm⟩
              have HC6 := Lib.hid (JC5.out.trans hC)
              clear hC
              rcases hY : rdRng 0 4611686018427387904 r5 with no | ⟨l, r6⟩
              · rw [hY] at hm
                obtain ⟨rfl, cs, hB, hs⟩ := hm
                have HZ : Hid (X = .error no) := Lib.hid (by rw [HX.out]; simp [rdBody, HY1.out, HY2.out, HY3.out, HY4.out, hY])
                clear hY
                have HB := Lib.hid hB; have HS := Lib.hid hs; clear hB hs
                go_wp2_with fail
                exact ⟨rfl, WOut.err HZ.out HC6.out HB.out (by rw [HS.out]; rfl)⟩
              rw [hY] at hm
              obtain ⟨rfl, hr, _, rfl, hM⟩ := hm
              simp only [List.setIfInBounds_toArray, List.set_cons_succ, List.set_cons_zero] at hM
              have HY5 := Lib.hid hY; have HR6 := Lib.hid hr; have HM6 := Lib.hid hM
              obtain ⟨h8, hl6⟩ := rdRng_b8 H8_5.out hl5 hY; have H8_6 := Lib.hid h8; clear h8
              clear hY hr hM
              go_wp2_with fail
              have HZ : Hid (X = .ok (⟨1, f, t, m, i, l, 0, 0, false, [], [], []⟩, r6)) := Lib.hid (by rw [HX.out]; simp [rdBody, HY1.out, HY2.out, HY3.out, HY4.out, HY5.out])
              go_end0
              exact WOut.ok HZ.out rfl HC6.out HR6.out HM6.out (⟨EntsV.nil _ _, EntsU.nil _⟩) (⟨Rd.nil _, From.nil _, UnA.nil _⟩) (⟨Rd.nil _, From.nil _, UnA.nil _⟩)
        by_cases hk2 : k = 2
        · subst hk2
          go_wp2_with fail
          clear ck
          apply Mono.region1 7 Ext [.is _, .is _, .is _, .is _, .is _, .is _, .is _] (by kernel_rfl) Ext.refl (fun _ _ _ => Ext.trans) (by kernel_rfl) rfl rfl trivial
          focus
            iterate 7 (apply Mono.step_is; (· refine Mono.obl_mk fun w3 hE3 _ K hK => ?_; go_wp2_with fail; simp only [Act.put, List.setIfInBounds_toArray, List.set_cons_succ, List.set_cons_zero] at hK; exact hK _ _ (Ext.refl _) (Mono.is_rfl _ _)); simp only [Act.put, List.setIfInBounds_toArray, List.set_cons_succ, List.set_cons_zero])
            refine Mono.step_end fun v4 hE4 _ => ?_
            simp only [List.drop_succ_cons, List.drop_zero]
            replace hE4 := (Ext.drew _).trans hE4
            have JR4 := Lib.hid (HR4.out.ext hE4); have JM4 := Lib.hid (HM4.out.ext hE4); have JC4 := Lib.hid (HC4.out.trans (Chg.ext hE4))
            clear hE4
            go_wp2_with fail
            refine (ryesM b mb 8 34 #[.int .i64 2, .int .u64 f, .int .u64 t, .int .u64 m, .int .u64 0, .int .u64 0, .int .u64 0, .int .u64 0, .bool false, .slice none 0 0, .slice none 0 0, .slice none 0 0] _ r4 v4 H8_4.out JR4.out JM4.out rfl hne (nul_of_rng (by simp))).mono ?_
            rintro en w5 ⟨hC, hm⟩
            have HC5 := Lib.hid (JC4.out.trans hC)
            clear hC
            rcases hY : rdYes r4 with no | ⟨y, r5⟩
            · rw [hY] at hm
              obtain ⟨rfl, cs, hB, hs⟩ := hm
              have HZ : Hid (X = .error no) := Lib.hid (by rw [HX.out]; simp [rdBody, HY1.out, HY2.out, HY3.out, hY])
              clear hY
              have HB := Lib.hid hB; have HS := Lib.hid hs; clear hB hs
              go_wp2_with fail
              exact ⟨rfl, WOut.err HZ.out HC5.out HB.out (by rw [HS.out]; rfl)⟩
            rw [hY] at hm
            obtain ⟨rfl, hr, _, rfl, hM⟩ := hm
            simp only [List.setIfInBounds_toArray, List.set_cons_succ, List.set_cons_zero] at hM
            have HY8 := Lib.hid hY; have HR5 := Lib.hid hr; have HM5 := Lib.hid hM
            obtain ⟨h8, hl5⟩ := rdYes_b8 H8_4.out hl4 hY; have H8_5 := Lib.hid h8; clear h8
            clear hY hr hM
            go_wp2_with fail
            have HZ : Hid (X = .ok (⟨2, f, t, m, 0, 0, 0, 0, y, [], [], []⟩, r5)) := Lib.hid (by rw [HX.out]; simp [rdBody, HY1.out, HY2.out, HY3.out, HY8.out])
            go_end0
            exact WOut.ok HZ.out rfl HC5.out HR5.out HM5.out (⟨EntsV.nil _ _, EntsU.nil _⟩) (⟨Rd.nil _, From.nil _, UnA.nil _⟩) (⟨Rd.nil _, From.nil _, UnA.nil _⟩)
        by_cases hk3 : k = 3
        · subst hk3
          go_wp2_with fail
          clear ck
          apply Mono.region1 7 Ext [.is _, .is _, .is _, .is _, .is _, .is _, .is _] (by kernel_rfl) Ext.refl (fun _ _ _ => Ext.trans) (by kernel_rfl) rfl rfl trivial
          focus
            iterate 7 (apply Mono.step_is; (· refine Mono.obl_mk fun w3 hE3 _ K hK => ?_; go_wp2_with fail; simp only [Act.put, List.setIfInBounds_toArray, List.set_cons_succ, List.set_cons_zero] at hK; exact hK _ _ (Ext.refl _) (Mono.is_rfl _ _)); simp only [Act.put, List.setIfInBounds_toArray, List.set_cons_succ, List.set_cons_zero])
            refine Mono.step_end fun v4 hE4 _ => ?_
            simp only [List.drop_succ_cons, List.drop_zero]
            replace hE4 := (Ext.drew _).trans hE4
            have JR4 := Lib.hid (HR4.out.ext hE4); have JM4 := Lib.hid (HM4.out.ext hE4); have JC4 := Lib.hid (HC4.out.trans (Chg.ext hE4))
            clear hE4
            go_wp2_with fail
            refine (rnumM b mb 4 34 #[.int .i64 3, .int .u64 f, .int .u64 t, .int .u64 m, .int .u64 0, .int .u64 0, .int .u64 0, .int .u64 0, .bool false, .slice none 0 0, .slice none 0 0, .slice none 0 0] _ 0 4611686018427387904 r4 v4 H8_4.out JR4.out JM4.out rfl hne (nul_of_rng (by simp))).mono ?_
            rintro en w5 ⟨hC, hm⟩
            have HC5 := Lib.hid (JC4.out.trans hC)
            clear hC
            rcases hY : rdRng 0 4611686018427387904 r4 with no | ⟨i, r5⟩
            · rw [hY] at hm
              obtain ⟨rfl, cs, hB, hs⟩ := hm
              have HZ : Hid (X = .error no) := Lib.hid (by rw [HX.out]; simp [rdBody, HY1.out, HY2.out, HY3.out, hY])
              clear hY
              have HB := Lib.hid hB; have HS := Lib.hid hs; clear hB hs
              go_wp2_with fail
              exact ⟨rfl, WOut.err HZ.out HC5.out HB.out (by rw [HS.out]; rfl)⟩
            rw [hY] at hm
            obtain ⟨rfl, hr, _, rfl, hM⟩ := hm
            simp only [List.setIfInBounds_toArray, List.set_cons_succ, List.set_cons_zero] at hM
            have HY4 := Lib.hid hY; have HR5 := Lib.hid hr; have HM5 := Lib.hid hM
            obtain ⟨h8, hl5⟩ := rdRng_b8 H8_4.out hl4 hY; have H8_5 := Lib.hid h8; clear h8
            clear hY hr hM
            go_wp2_with fail
            apply Mono.region1 7 Ext [.is _, .is _, .is _, .is _, .is _, .is _, .is _] (by kernel_rfl) Ext.refl (fun _ _ _ => Ext.trans) (by kernel_rfl) rfl rfl trivial
            focus
              iterate 7 (apply Mono.step_is; (· refine Mono.obl_mk fun w3 hE3 _ K hK => ?_; go_wp2_with fail; simp only [Act.put, List.setIfInBounds_toArray, List.set_cons_succ, List.set_cons_zero] at hK; exact hK _ _ (Ext.refl _) (Mono.is_rfl _ _)); simp only [Act.put, List.setIfInBounds_toArray, List.set_cons_succ, List.set_cons_zero])
              refine Mono.step_end fun v5 hE5 _ => ?_
              simp only [List.drop_succ_cons, List.drop_zero]
              replace hE5 := (Ext.drew _).trans hE5
              have JR5 := Lib.hid (HR5.out.ext hE5); have JM5 := Lib.hid (HM5.out.ext hE5); have JC5 := Lib.hid (HC5.out.trans (Chg.ext hE5))
              clear hE5
              go_wp2_with fail
              refine (rnumM b mb 5 34 #[.int .i64 3, .int .u64 f, .int .u64 t, .int .u64 m, .int .u64 i, .int .u64 0, .int .u64 0, .int .u64 0, .bool false, .slice none 0 0, .slice none 0 0, .slice none 0 0] _ 0 4611686018427387904 r5 v5 H8_5.out JR5.out JM5.out rfl hne (nul_of_rng (by simp))).mono ?_
              rintro en w6 ⟨hC, hm⟩
              have HC6 := Lib.hid (JC5.out.trans hC)
              clear hC
              rcases hY : rdRng 0 4611686018427387904 r5 with no | ⟨l, r6⟩
              · rw [hY] at hm
                obtain ⟨rfl, cs, hB, hs⟩ := hm
                have HZ : Hid (X = .error no) := Lib.hid (by rw [HX.out]; simp [rdBody, HY1.out, HY2.out, HY3.out, HY4.out, hY])
                clear hY
                have HB := Lib.hid hB; have HS := Lib.hid hs; clear hB hs
                go_wp2_with fail
                exact ⟨rfl, WOut.err HZ.out HC6.out HB.out (by rw [HS.out]; rfl)⟩
              rw [hY] at hm
              obtain ⟨rfl, hr, _, rfl, hM⟩ := hm
              simp only [List.setIfInBounds_toArray, List.set_cons_succ, List.set_cons_zero] at hM
              have HY5 := Lib.hid hY; have HR6 := Lib.hid hr; have HM6 := Lib.hid hM
              obtain ⟨h8, hl6⟩ := rdRng_b8 H8_5.out hl5 hY; have H8_6 := Lib.hid h8; clear h8
              clear hY hr hM
              go_wp2_with fail
              apply Mono.region1 7 Ext [.is _, .is _, .is _, .is _, .is _, .is _, .is _] (by kernel_rfl) Ext.refl (fun _ _ _ => Ext.trans) (by kernel_rfl) rfl rfl trivial
              focus
                iterate 7 (apply Mono.step_is; (· refine Mono.obl_mk fun w3 hE3 _ K hK => ?_; go_wp2_with fail; simp only [Act.put, List.setIfInBounds_toArray, List.set_cons_succ, List.set_cons_zero] at hK; exact hK _ _ (Ext.refl _) (Mono.is_rfl _ _)); simp only [Act.put, List.setIfInBounds_toArray, List.set_cons_succ, List.set_cons_zero])
                refine Mono.step_end fun v6 hE6 _ => ?_
                simp only [List.drop_succ_cons, List.drop_zero]
                replace hE6 := (Ext.drew _).trans hE6
                have JR6 := Lib.hid (HR6.out.ext hE6); have JM6 := Lib.hid (HM6.out.ext hE6); have JC6 := Lib.hid (HC6.out.trans (Chg.ext hE6))
                clear hE6
                go_wp2_with fail
                refine (rnumM b mb 6 34 #[.int .i64 3, .int .u64 f, .int .u64 t, .int .u64 m, .int .u64 i, .int .u64 l, .int .u64 0, .int .u64 0, .bool false, .slice none 0 0, .slice none 0 0, .slice none 0 0] _ 0 4611686018427387904 r6 v6 H8_6.out JR6.out JM6.out rfl hne (nul_of_rng (by simp))).mono ?_
                rintro en w7 ⟨hC, hm⟩
                have HC7 := Lib.hid (JC6.out.trans hC)
                clear hC
                rcases hY : rdRng 0 4611686018427387904 r6 with no | ⟨c, r7⟩
                · rw [hY] at hm
                  obtain ⟨rfl, cs, hB, hs⟩ := hm
                  have HZ : Hid (X = .error no) := Lib.hid (by rw [HX.out]; simp [rdBody, HY1.out, HY2.out, HY3.out, HY4.out, HY5.out, hY])
                  clear hY
                  have HB := Lib.hid hB; have HS := Lib.hid hs; clear hB hs
                  go_wp2_with fail
                  exact ⟨rfl, WOut.err HZ.out HC7.out HB.out (by rw [HS.out]; rfl)⟩
                rw [hY] at hm
                obtain ⟨rfl, hr, _, rfl, hM⟩ := hm
                simp only [List.setIfInBounds_toArray, List.set_cons_succ, List.set_cons_zero] at hM
                have HY6 := Lib.hid hY; have HR7 := Lib.hid hr; have HM7 := Lib.hid hM
                obtain ⟨h8, hl7⟩ := rdRng_b8 H8_6.out hl6 hY; have H8_7 := Lib.hid h8; clear h8
                clear hY hr hM
                go_wp2_with fail
                apply Mono.region1 7 Ext [.is _, .is _, .is _, .is _, .is _, .is _, .is _] (by kernel_rfl) Ext.refl (fun _ _ _ => Ext.trans) (by kernel_rfl) rfl rfl trivial
                focus
                  iterate 7 (apply Mono.step_is; (· refine Mono.obl_mk fun w3 hE3 _ K hK => ?_; go_wp2_with fail; simp only [Act.put, List.setIfInBounds_toArray, List.set_cons_succ, List.set_cons_zero] at hK; exact hK _ _ (Ext.refl _) (Mono.is_rfl _ _)); simp only [Act.put, List.setIfInBounds_toArray, List.set_cons_succ, List.set_cons_zero])
                  refine Mono.step_end fun v7 hE7 _ => ?_
                  simp only [List.drop_succ_cons, List.drop_zero]
                  replace hE7 := (Ext.drew _).trans hE7
                  have JR7 := Lib.hid (HR7.out.ext hE7); have JM7 := Lib.hid (HM7.out.ext hE7); have JC7 := Lib.hid (HC7.out.trans (Chg.ext hE7))
                  clear hE7
                  go_wp2_with fail
                  refine (rnumM b mb 7 34 #[.int .i64 3, .int .u64 f, .int .u64 t, .int .u64 m, .int .u64 i, .int .u64 l, .int .u64 c, .int .u64 0, .bool false, .slice none 0 0, .slice none 0 0, .slice none 0 0] _ 0 18446744073709551615 r7 v7 H8_7.out JR7.out JM7.out rfl hne (nul_of_rng (by simp))).mono ?_
                  rintro en w8 ⟨hC, hm⟩
                  have HC8 := Lib.hid (JC7.out.trans hC)
                  clear hC
                  rcases hY : rdRng 0 18446744073709551615 r7 with no | ⟨s, r8⟩
                  · rw [hY] at hm
                    obtain ⟨rfl, cs, hB, hs⟩ := hm
                    have HZ : Hid (X = .error no) := Lib.hid (by rw [HX.out]; simp [rdBody, HY1.out, HY2.out, HY3.out, HY4.out, HY5.out, HY6.out, hY])
                    clear hY
                    have HB := Lib.hid hB; have HS := Lib.hid hs; clear hB hs
                    go_wp2_with fail
                    exact ⟨rfl, WOut.err HZ.out HC8.out HB.out (by rw [HS.out]; rfl)⟩
                  rw [hY] at hm
                  obtain ⟨rfl, hr, _, rfl, hM⟩ := hm
                  simp only [List.setIfInBounds_toArray, List.set_cons_succ, List.set_cons_zero] at hM
                  have HY7 := Lib.hid hY; have HR8 := Lib.hid hr; have HM8 := Lib.hid hM
                  obtain ⟨h8, hl8⟩ := rdRng_b8 H8_7.out hl7 hY; have H8_8 := Lib.hid h8; clear h8
                  clear hY hr hM
                  go_wp2_with fail
                  apply Mono.region1 7 Ext [.is _, .is _, .is _, .is _, .is _, .is _, .is _] (by kernel_rfl) Ext.refl (fun _ _ _ => Ext.trans) (by kernel_rfl) rfl rfl trivial
                  focus
                    iterate 7 (apply Mono.step_is; (· refine Mono.obl_mk fun w3 hE3 _ K hK => ?_; go_wp2_with fail; simp only [Act.put, List.setIfInBounds_toArray, List.set_cons_succ, List.set_cons_zero] at hK; exact hK _ _ (Ext.refl _) (Mono.is_rfl _ _)); simp only [Act.put, List.setIfInBounds_toArray, List.set_cons_succ, List.set_cons_zero])
                    refine Mono.step_end fun v8 hE8 _ => ?_
                    simp only [List.drop_succ_cons, List.drop_zero]
                    replace hE8 := (Ext.drew _).trans hE8
                    have JR8 := Lib.hid (HR8.out.ext hE8); have JM8 := Lib.hid (HM8.out.ext hE8); have JC8 := Lib.hid (HC8.out.trans (Chg.ext hE8))
                    clear hE8
                    go_wp2_with fail
                    refine (rentsM b mb 9 34 #[.int .i64 3, .int .u64 f, .int .u64 t, .int .u64 m, .int .u64 i, .int .u64 l, .int .u64 c, .int .u64 s, .bool false, .slice none 0 0, .slice none 0 0, .slice none 0 0] r8 v8 H8_8.out hl8 JR8.out JM8.out rfl hne (nul_of_rng (by simp))).mono ?_
                    rintro en w9 ⟨hC, hm⟩
                    have HC9 := Lib.hid (JC8.out.trans hC)
                    clear hC
                    rcases hY : rdEnts r8 with no | ⟨xs, r9⟩
                    · rw [hY] at hm
                      obtain ⟨rfl, cs, hB, hs⟩ := hm
                      have HZ : Hid (X = .error no) := Lib.hid (by rw [HX.out]; simp [rdBody, HY1.out, HY2.out, HY3.out, HY4.out, HY5.out, HY6.out, HY7.out, hY])
                      clear hY
                      have HB := Lib.hid hB; have HS := Lib.hid hs; clear hB hs
                      go_wp2_with fail
                      exact ⟨rfl, WOut.err HZ.out HC9.out HB.out (by rw [HS.out]; rfl)⟩
                    rw [hY] at hm
                    obtain ⟨rfl, hr, vxs, hv, hM⟩ := hm
                    simp only [List.setIfInBounds_toArray, List.set_cons_succ, List.set_cons_zero] at hM
                    have HY9 := Lib.hid hY; have HR9 := Lib.hid hr; have HM9 := Lib.hid hM
                    have HL := Lib.hid hv; have hFL := JC8.out.size
                    clear hv
                    clear hY hr hM
                    go_wp2_with fail
                    have HZ : Hid (X = .ok (⟨3, f, t, m, i, l, c, s, false, xs, [], []⟩, r9)) := Lib.hid (by rw [HX.out]; simp [rdBody, HY1.out, HY2.out, HY3.out, HY4.out, HY5.out, HY6.out, HY7.out, HY9.out])
                    go_end0
                    exact WOut.ok HZ.out rfl HC9.out HR9.out HM9.out (⟨HL.out.1.low hFL, HL.out.2⟩) (⟨Rd.nil _, From.nil _, UnA.nil _⟩) (⟨Rd.nil _, From.nil _, UnA.nil _⟩)
        by_cases hk4 : k = 4
        · subst hk4
          go_wp2_with fail
          clear ck
          apply Mono.region1 7 Ext [.is _, .is _, .is _, .is _, .is _, .is _, .is _] (by kernel_rfl) Ext.refl (fun _ _ _ => Ext.trans) (by kernel_rfl) rfl rfl trivial
          focus
            iterate 7 (apply Mono.step_is; (· refine Mono.obl_mk fun w3 hE3 _ K hK => ?_; go_wp2_with fail; simp only [Act.put, List.setIfInBounds_toArray, List.set_cons_succ, List.set_cons_zero] at hK; exact hK _ _ (Ext.refl _) (Mono.is_rfl _ _)); simp only [Act.put, List.setIfInBounds_toArray, List.set_cons_succ, List.set_cons_zero])
            refine Mono.step_end fun v4 hE4 _ => ?_
            simp only [List.drop_succ_cons, List.drop_zero]
            replace hE4 := (Ext.drew _).trans hE4
            have JR4 := Lib.hid (HR4.out.ext hE4); have JM4 := Lib.hid (HM4.out.ext hE4); have JC4 := Lib.hid (HC4.out.trans (Chg.ext hE4))
            clear hE4
            go_wp2_with fail
            refine (ryesM b mb 8 34 #[.int .i64 4, .int .u64 f, .int .u64 t, .int .u64 m, .int .u64 0, .int .u64 0, .int .u64 0, .int .u64 0, .bool false, .slice none 0 0, .slice none 0 0, .slice none 0 0] _ r4 v4 H8_4.out JR4.out JM4.out rfl hne (nul_of_rng (by simp))).mono ?_
            rintro en w5 ⟨hC, hm⟩
            have HC5 := Lib.hid (JC4.out.trans hC)
            clear hC
            rcases hY : rdYes r4 with no | ⟨y, r5⟩
            · rw [hY] at hm
              obtain ⟨rfl, cs, hB, hs⟩ := hm
              have HZ : Hid (X = .error no) := Lib.hid (by rw [HX.out]; simp [rdBody, HY1.out, HY2.out, HY3.out, hY])
              clear hY
              have HB := Lib.hid hB; have HS := Lib.hid hs; clear hB hs
              go_wp2_with fail
              exact ⟨rfl, WOut.err HZ.out HC5.out HB.out (by rw [HS.out]; rfl)⟩
            rw [hY] at hm
            obtain ⟨rfl, hr, _, rfl, hM⟩ := hm
            simp only [List.setIfInBounds_toArray, List.set_cons_succ, List.set_cons_zero] at hM
            have HY8 := Lib.hid hY; have HR5 := Lib.hid hr; have HM5 := Lib.hid hM
            obtain ⟨h8, hl5⟩ := rdYes_b8 H8_4.out hl4 hY; have H8_5 := Lib.hid h8; clear h8
            clear hY hr hM
            go_wp2_with fail
            apply Mono.region1 7 Ext [.is _, .is _, .is _, .is _, .is _, .is _, .is _] (by kernel_rfl) Ext.refl (fun _ _ _ => Ext.trans) (by kernel_rfl) rfl rfl trivial
            focus
              iterate 7 (apply Mono.step_is; (· refine Mono.obl_mk fun w3 hE3 _ K hK => ?_; go_wp2_with fail; simp only [Act.put, List.setIfInBounds_toArray, List.set_cons_succ, List.set_cons_zero] at hK; exact hK _ _ (Ext.refl _) (Mono.is_rfl _ _)); simp only [Act.put, List.setIfInBounds_toArray, List.set_cons_succ, List.set_cons_zero])
              refine Mono.step_end fun v5 hE5 _ => ?_
              simp only [List.drop_succ_cons, List.drop_zero]
              replace hE5 := (Ext.drew _).trans hE5
              have JR5 := Lib.hid (HR5.out.ext hE5); have JM5 := Lib.hid (HM5.out.ext hE5); have JC5 := Lib.hid (HC5.out.trans (Chg.ext hE5))
              clear hE5
              go_wp2_with fail
              refine (rnumM b mb 4 34 #[.int .i64 4, .int .u64 f, .int .u64 t, .int .u64 m, .int .u64 0, .int .u64 0, .int .u64 0, .int .u64 0, .bool y, .slice none 0 0, .slice none 0 0, .slice none 0 0] _ 0 4611686018427387904 r5 v5 H8_5.out JR5.out JM5.out rfl hne (nul_of_rng (by simp))).mono ?_
              rintro en w6 ⟨hC, hm⟩
              have HC6 := Lib.hid (JC5.out.trans hC)
              clear hC
              rcases hY : rdRng 0 4611686018427387904 r5 with no | ⟨i, r6⟩
              · rw [hY] at hm
                obtain ⟨rfl, cs, hB, hs⟩ := hm
                have HZ : Hid (X = .error no) := Lib.hid (by rw [HX.out]; simp [rdBody, HY1.out, HY2.out, HY3.out, HY8.out, hY])
                clear hY
                have HB := Lib.hid hB; have HS := Lib.hid hs; clear hB hs
                go_wp2_with fail
                exact ⟨rfl, WOut.err HZ.out HC6.out HB.out (by rw [HS.out]; rfl)⟩
              rw [hY] at hm
              obtain ⟨rfl, hr, _, rfl, hM⟩ := hm
              simp only [List.setIfInBounds_toArray, List.set_cons_succ, List.set_cons_zero] at hM
              have HY4 := Lib.hid hY; have HR6 := Lib.hid hr; have HM6 := Lib.hid hM
              obtain ⟨h8, hl6⟩ := rdRng_b8 H8_5.out hl5 hY; have H8_6 := Lib.hid h8; clear h8
              clear hY hr hM
              go_wp2_with fail
              apply Mono.region1 7 Ext [.is _, .is _, .is _, .is _, .is _, .is _, .is _] (by kernel_rfl) Ext.refl (fun _ _ _ => Ext.trans) (by kernel_rfl) rfl rfl trivial
              focus
                iterate 7 (apply Mono.step_is; (· refine Mono.obl_mk fun w3 hE3 _ K hK => ?_; go_wp2_with fail; simp only [Act.put, List.setIfInBounds_toArray, List.set_cons_succ, List.set_cons_zero] at hK; exact hK _ _ (Ext.refl _) (Mono.is_rfl _ _)); simp only [Act.put, List.setIfInBounds_toArray, List.set_cons_succ, List.set_cons_zero])
                refine Mono.step_end fun v6 hE6 _ => ?_
                simp only [List.drop_succ_cons, List.drop_zero]
                replace hE6 := (Ext.drew _).trans hE6
                have JR6 := Lib.hid (HR6.out.ext hE6); have JM6 := Lib.hid (HM6.out.ext hE6); have JC6 := Lib.hid (HC6.out.trans (Chg.ext hE6))
                clear hE6
                go_wp2_with fail
                refine (rnumM b mb 7 34 #[.int .i64 4, .int .u64 f, .int .u64 t, .int .u64 m, .int .u64 i, .int .u64 0, .int .u64 0, .int .u64 0, .bool y, .slice none 0 0, .slice none 0 0, .slice none 0 0] _ 0 18446744073709551615 r6 v6 H8_6.out JR6.out JM6.out rfl hne (nul_of_rng (by simp))).mono ?_
                rintro en w7 ⟨hC, hm⟩
                have HC7 := Lib.hid (JC6.out.trans hC)
                clear hC
                rcases hY : rdRng 0 18446744073709551615 r6 with no | ⟨s, r7⟩
                · rw [hY] at hm
                  obtain ⟨rfl, cs, hB, hs⟩ := hm
                  have HZ : Hid (X = .error no) := Lib.hid (by rw [HX.out]; simp [rdBody, HY1.out, HY2.out, HY3.out, HY8.out, HY4.out, hY])
                  clear hY
                  have HB := Lib.hid hB; have HS := Lib.hid hs; clear hB hs
                  go_wp2_with fail
                  exact ⟨rfl, WOut.err HZ.out HC7.out HB.out (by rw [HS.out]; rfl)⟩
                rw [hY] at hm
                obtain ⟨rfl, hr, _, rfl, hM⟩ := hm
                simp only [List.setIfInBounds_toArray, List.set_cons_succ, List.set_cons_zero] at hM
                have HY7 := Lib.hid hY; have HR7 := Lib.hid hr; have HM7 := Lib.hid hM
                obtain ⟨h8, hl7⟩ := rdRng_b8 H8_6.out hl6 hY; have H8_7 := Lib.hid h8; clear h8
                clear hY hr hM
                go_wp2_with fail
                have HZ : Hid (X = .ok (⟨4, f, t, m, i, 0, 0, s, y, [], [], []⟩, r7)) := Lib.hid (by rw [HX.out]; simp [rdBody, HY1.out, HY2.out, HY3.out, HY8.out, HY4.out, HY7.out])
                go_end0
                exact WOut.ok HZ.out rfl HC7.out HR7.out HM7.out (⟨EntsV.nil _ _, EntsU.nil _⟩) (⟨Rd.nil _, From.nil _, UnA.nil _⟩) (⟨Rd.nil _, From.nil _, UnA.nil _⟩)
        by_cases hk5 : k = 5
        · subst hk5
          go_wp2_with fail
          clear ck
          apply Mono.region1 7 Ext [.is _, .is _, .is _, .is _, .is _, .is _, .is _] (by kernel_rfl) Ext.refl (fun _ _ _ => Ext.trans) (by kernel_rfl) rfl rfl trivial
          focus
            iterate 7 (apply Mono.step_is; (· refine Mono.obl_mk fun w3 hE3 _ K hK => ?_; go_wp2_with fail; simp only [Act.put, List.setIfInBounds_toArray, List.set_cons_succ, List.set_cons_zero] at hK; exact hK _ _ (Ext.refl _) (Mono.is_rfl _ _)); simp only [Act.put, List.setIfInBounds_toArray, List.set_cons_succ, List.set_cons_zero])
            refine Mono.step_end fun v4 hE4 _ => ?_
            simp only [List.drop_succ_cons, List.drop_zero]
            replace hE4 := (Ext.drew _).trans hE4
            have JR4 := Lib.hid (HR4.out.ext hE4); have JM4 := Lib.hid (HM4.out.ext hE4); have JC4 := Lib.hid (HC4.out.trans (Chg.ext hE4))
            clear hE4
            go_wp2_with fail
            refine (rnumM b mb 4 34 #[.int .i64 5, .int .u64 f, .int .u64 t, .int .u64 m, .int .u64 0, .int .u64 0, .int .u64 0, .int .u64 0, .bool false, .slice none 0 0, .slice none 0 0, .slice none 0 0] _ 0 4611686018427387904 r4 v4 H8_4.out JR4.out JM4.out rfl hne (nul_of_rng (by simp))).mono ?_
            rintro en w5 ⟨hC, hm⟩
            have HC5 := Lib.hid (JC4.out.trans hC)
            clear hC
            rcases hY : rdRng 0 4611686018427387904 r4 with no | ⟨i, r5⟩
            · rw [hY] at hm
              obtain ⟨rfl, cs, hB, hs⟩ := hm
              have HZ : Hid (X = .error no) := Lib.hid (by rw [HX.out]; simp [rdBody, HY1.out, HY2.out, HY3.out, hY])
              clear hY
              have HB := Lib.hid hB; have HS := Lib.hid hs; clear hB hs
              go_wp2_with fail
              exact ⟨rfl, WOut.err HZ.out HC5.out HB.out (by rw [HS.out]; rfl)⟩
            rw [hY] at hm
            obtain ⟨rfl, hr, _, rfl, hM⟩ := hm
            simp only [List.setIfInBounds_toArray, List.set_cons_succ, List.set_cons_zero] at hM
            have HY4 := Lib.hid hY; have HR5 := Lib.hid hr; have HM5 := Lib.hid hM
            obtain ⟨h8, hl5⟩ := rdRng_b8 H8_4.out hl4 hY; have H8_5 := Lib.hid h8; clear h8
            clear hY hr hM
            go_wp2_with fail
            apply Mono.region1 7 Ext [.is _, .is _, .is _, .is _, .is _, .is _, .is _] (by kernel_rfl) Ext.refl (fun _ _ _ => Ext.trans) (by kernel_rfl) rfl rfl trivial
            focus
              iterate 7 (apply Mono.step_is; (· refine Mono.obl_mk fun w3 hE3 _ K hK => ?_; go_wp2_with fail; simp only [Act.put, List.setIfInBounds_toArray, List.set_cons_succ, List.set_cons_zero] at hK; exact hK _ _ (Ext.refl _) (Mono.is_rfl _ _)); simp only [Act.put, List.setIfInBounds_toArray, List.set_cons_succ, List.set_cons_zero])
              refine Mono.step_end fun v5 hE5 _ => ?_
              simp only [List.drop_succ_cons, List.drop_zero]
              replace hE5 := (Ext.drew _).trans hE5
              have JR5 := Lib.hid (HR5.out.ext hE5); have JM5 := Lib.hid (HM5.out.ext hE5); have JC5 := Lib.hid (HC5.out.trans (Chg.ext hE5))
              clear hE5
              go_wp2_with fail
              refine (rnumM b mb 5 34 #[.int .i64 5, .int .u64 f, .int .u64 t, .int .u64 m, .int .u64 i, .int .u64 0, .int .u64 0, .int .u64 0, .bool false, .slice none 0 0, .slice none 0 0, .slice none 0 0] _ 0 4611686018427387904 r5 v5 H8_5.out JR5.out JM5.out rfl hne (nul_of_rng (by simp))).mono ?_
              rintro en w6 ⟨hC, hm⟩
              have HC6 := Lib.hid (JC5.out.trans hC)
              clear hC
              rcases hY : rdRng 0 4611686018427387904 r5 with no | ⟨l, r6⟩
              · rw [hY] at hm
                obtain ⟨rfl, cs, hB, hs⟩ := hm
                have HZ : Hid (X = .error no) := Lib.hid (by rw [HX.out]; simp [rdBody, HY1.out, HY2.out, HY3.out, HY4.out, hY])
                clear hY
                have HB := Lib.hid hB; have HS := Lib.hid hs; clear hB hs
                go_wp2_with fail
                exact ⟨rfl, WOut.err HZ.out HC6.out HB.out (by rw [HS.out]; rfl)⟩
              rw [hY] at hm
              obtain ⟨rfl, hr, _, rfl, hM⟩ := hm
              simp only [List.setIfInBounds_toArray, List.set_cons_succ, List.set_cons_zero] at hM
              have HY5 := Lib.hid hY; have HR6 := Lib.hid hr; have HM6 := Lib.hid hM
              obtain ⟨h8, hl6⟩ := rdRng_b8 H8_5.out hl5 hY; have H8_6 := Lib.hid h8; clear h8
              clear hY hr hM
              go_wp2_with fail
              apply Mono.region1 7 Ext [.is _, .is _, .is _, .is _, .is _, .is _, .is _] (by kernel_rfl) Ext.refl (fun _ _ _ => Ext.trans) (by kernel_rfl) rfl rfl trivial
              focus
                iterate 7 (apply Mono.step_is; (· refine Mono.obl_mk fun w3 hE3 _ K hK => ?_; go_wp2_with fail; simp only [Act.put, List.setIfInBounds_toArray, List.set_cons_succ, List.set_cons_zero] at hK; exact hK _ _ (Ext.refl _) (Mono.is_rfl _ _)); simp only [Act.put, List.setIfInBounds_toArray, List.set_cons_succ, List.set_cons_zero])
                refine Mono.step_end fun v6 hE6 _ => ?_
                simp only [List.drop_succ_cons, List.drop_zero]
                replace hE6 := (Ext.drew _).trans hE6
                have JR6 := Lib.hid (HR6.out.ext hE6); have JM6 := Lib.hid (HM6.out.ext hE6); have JC6 := Lib.hid (HC6.out.trans (Chg.ext hE6))
                clear hE6
                go_wp2_with fail
                refine (rnumM b mb 7 34 #[.int .i64 5, .int .u64 f, .int .u64 t, .int .u64 m, .int .u64 i, .int .u64 l, .int .u64 0, .int .u64 0, .bool false, .slice none 0 0, .slice none 0 0, .slice none 0 0] _ 0 18446744073709551615 r6 v6 H8_6.out JR6.out JM6.out rfl hne (nul_of_rng (by simp))).mono ?_
                rintro en w7 ⟨hC, hm⟩
                have HC7 := Lib.hid (JC6.out.trans hC)
                clear hC
                rcases hY : rdRng 0 18446744073709551615 r6 with no | ⟨s, r7⟩
                · rw [hY] at hm
                  obtain ⟨rfl, cs, hB, hs⟩ := hm
                  have HZ : Hid (X = .error no) := Lib.hid (by rw [HX.out]; simp [rdBody, HY1.out, HY2.out, HY3.out, HY4.out, HY5.out, hY])
                  clear hY
                  have HB := Lib.hid hB; have HS := Lib.hid hs; clear hB hs
                  go_wp2_with fail
                  exact ⟨rfl, WOut.err HZ.out HC7.out HB.out (by rw [HS.out]; rfl)⟩
                rw [hY] at hm
                obtain ⟨rfl, hr, _, rfl, hM⟩ := hm
                simp only [List.setIfInBounds_toArray, List.set_cons_succ, List.set_cons_zero] at hM
                have HY7 := Lib.hid hY; have HR7 := Lib.hid hr; have HM7 := Lib.hid hM
                obtain ⟨h8, hl7⟩ := rdRng_b8 H8_6.out hl6 hY; have H8_7 := Lib.hid h8; clear h8
                clear hY hr hM
                go_wp2_with fail
                apply Mono.region1 7 Ext [.is _, .is _, .is _, .is _, .is _, .is _, .is _] (by kernel_rfl) Ext.refl (fun _ _ _ => Ext.trans) (by kernel_rfl) rfl rfl trivial
                focus
                  iterate 7 (apply Mono.step_is; (· refine Mono.obl_mk fun w3 hE3 _ K hK => ?_; go_wp2_with fail; simp only [Act.put, List.setIfInBounds_toArray, List.set_cons_succ, List.set_cons_zero] at hK; exact hK _ _ (Ext.refl _) (Mono.is_rfl _ _)); simp only [Act.put, List.setIfInBounds_toArray, List.set_cons_succ, List.set_cons_zero])
                  refine Mono.step_end fun v7 hE7 _ => ?_
                  simp only [List.drop_succ_cons, List.drop_zero]
                  replace hE7 := (Ext.drew _).trans hE7
                  have JR7 := Lib.hid (HR7.out.ext hE7); have JM7 := Lib.hid (HM7.out.ext hE7); have JC7 := Lib.hid (HC7.out.trans (Chg.ext hE7))
                  clear hE7
                  go_wp2_with fail
                  refine (rmemM b mb 10 34 #[.int .i64 5, .int .u64 f, .int .u64 t, .int .u64 m, .int .u64 i, .int .u64 l, .int .u64 0, .int .u64 s, .bool false, .slice none 0 0, .slice none 0 0, .slice none 0 0] r7 v7 H8_7.out hl7 JR7.out JM7.out rfl hne (nul_of_rng (by simp))).mono ?_
                  rintro en w8 ⟨hC, hm⟩
                  have HC8 := Lib.hid (JC7.out.trans hC)
                  clear hC
                  rcases hY : idsB r7 with no | ⟨ms, r8⟩
                  · rw [hY] at hm
                    obtain ⟨rfl, cs, hB, hs⟩ := hm
                    have HZ : Hid (X = .error no) := Lib.hid (by rw [HX.out]; simp [rdBody, HY1.out, HY2.out, HY3.out, HY4.out, HY5.out, HY7.out, hY])
                    clear hY
                    have HB := Lib.hid hB; have HS := Lib.hid hs; clear hB hs
                    go_wp2_with fail
                    exact ⟨rfl, WOut.err HZ.out HC8.out HB.out (by rw [HS.out]; rfl)⟩
                  rw [hY] at hm
                  obtain ⟨rfl, hr, vms, hv, hM⟩ := hm
                  obtain ⟨ma, mn, mc, rfl⟩ := Rd.shape hv.1
                  simp only [List.setIfInBounds_toArray, List.set_cons_succ, List.set_cons_zero] at hM
                  have HY10 := Lib.hid hY; have HR8 := Lib.hid hr; have HM8 := Lib.hid hM
                  obtain ⟨h8, hl8⟩ := idsB_b8 H8_7.out hl7 hY; have H8_8 := Lib.hid h8; clear h8
                  have HV8 := Lib.hid (show RdW _ _ _ from ⟨hv.1, hv.2.2⟩); have hFV : From w.heap.size (.slice ma mn mc) := hv.2.1.mono JC7.out.size
                  clear hv
                  clear hY hr hM
                  go_wp2_with fail
                  apply Mono.region1 7 Ext [.is _, .is _, .is _, .is _, .is _, .is _, .is _] (by kernel_rfl) Ext.refl (fun _ _ _ => Ext.trans) (by kernel_rfl) rfl rfl trivial
                  focus
                    iterate 7 (apply Mono.step_is; (· refine Mono.obl_mk fun w3 hE3 _ K hK => ?_; go_wp2_with fail; simp only [Act.put, List.setIfInBounds_toArray, List.set_cons_succ, List.set_cons_zero] at hK; exact hK _ _ (Ext.refl _) (Mono.is_rfl _ _)); simp only [Act.put, List.setIfInBounds_toArray, List.set_cons_succ, List.set_cons_zero])
                    refine Mono.step_end fun v8 hE8 _ => ?_
                    simp only [List.drop_succ_cons, List.drop_zero]
                    replace hE8 := (Ext.drew _).trans hE8
                    have JR8 := Lib.hid (HR8.out.ext hE8); have JM8 := Lib.hid (HM8.out.ext hE8); have JC8 := Lib.hid (HC8.out.trans (Chg.ext hE8))
                    have JV8 := Lib.hid (HV8.out.ext hE8)
                    clear hE8
                    go_wp2_with fail
                    refine (rimgM b mb 11 34 #[.int .i64 5, .int .u64 f, .int .u64 t, .int .u64 m, .int .u64 i, .int .u64 l, .int .u64 0, .int .u64 s, .bool false, .slice none 0 0, .slice ma mn mc, .slice none 0 0] _ r8 v8 H8_8.out hl8 JR8.out JM8.out rfl hne (nul_of_rng (by simp))).mono ?_
                    rintro en w9 ⟨hC, hm⟩
                    have HC9 := Lib.hid (JC8.out.trans hC)
                    have HV9 := Lib.hid (JV8.out.chg hC (hFV.off (by simpa using ⟨hltb, hltm⟩)))
                    clear hC
                    rcases hY : rdRaw 16384 r8 with no | ⟨d, r9⟩
                    · rw [hY] at hm
                      obtain ⟨rfl, cs, hB, hs⟩ := hm
                      have HZ : Hid (X = .error no) := Lib.hid (by rw [HX.out]; simp [rdBody, HY1.out, HY2.out, HY3.out, HY4.out, HY5.out, HY7.out, HY10.out, hY])
                      clear hY
                      have HB := Lib.hid hB; have HS := Lib.hid hs; clear hB hs
                      go_wp2_with fail
                      exact ⟨rfl, WOut.err HZ.out HC9.out HB.out (by rw [HS.out]; rfl)⟩
                    rw [hY] at hm
                    obtain ⟨rfl, hr, vd, hv, hM⟩ := hm
                    simp only [List.setIfInBounds_toArray, List.set_cons_succ, List.set_cons_zero] at hM
                    have HY11 := Lib.hid hY; have HR9 := Lib.hid hr; have HM9 := Lib.hid hM
                    have HL := Lib.hid hv; have hFL := JC8.out.size
                    clear hv
                    clear hY hr hM
                    go_wp2_with fail
                    have HZ : Hid (X = .ok (⟨5, f, t, m, i, l, 0, s, false, [], ms, d⟩, r9)) := Lib.hid (by rw [HX.out]; simp [rdBody, HY1.out, HY2.out, HY3.out, HY4.out, HY5.out, HY7.out, HY10.out, HY11.out])
                    go_end0
                    exact WOut.ok HZ.out rfl HC9.out HR9.out HM9.out (⟨EntsV.nil _ _, EntsU.nil _⟩) (⟨HV9.out.1, hFV, HV9.out.2⟩) (⟨HL.out.1, HL.out.2.1.mono hFL, HL.out.2.2⟩)
        have HZ : Hid (X = .error 3) := Lib.hid (by rw [HX.out]; simp [rdBody, HY1.out, HY2.out, HY3.out, hk1, hk2, hk3, hk4, hk5])
        go_wp2_with fail
        exact ⟨rfl, WOut.err HZ.out HC4.out HM4.out rfl⟩
end Go.Proofs.Ytjodgbabfhcilaa
