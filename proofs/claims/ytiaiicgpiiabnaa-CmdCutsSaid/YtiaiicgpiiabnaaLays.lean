/- The law CmdLays: its walk, and those of what it calls beside cmd and the reference. -/
import Derived.Test.YtiaiicgpiiabnaaRPut
import Derived.Test.YtiaiicgpiiabnaaSame
import Derived.Lib.SlBytesConst
import Derived.Test.YtiaiicgpiiabnaaBlk
namespace Go.Proofs.Ytiaiicgpiiabnaa
open Go Go.RowKit

/-- What Put answers of any entry. -/
def errB (x : Ent) : Int := if formedB x then 0 else 1
def bytesB (x : Ent) : List Int := if formedB x then putB x else []

def RetPut (x : Ent) (w : World) (e : Ending) (w' : World) : Prop := ∃ b, e = .returned (.tuple #[b, .int .i64 (errB x)]) ∧ Rd w' b (u8s (bytesB x)) ∧ Ext w w'

theorem put_any (v : Value) (x : Ent) (w : World) (hv : EntV w v x) (hok : EntOk x) : Calls Try.prog 10 #[v] w (RetPut x w) := by
  cases hf : formedB x with
  | false => exact (put_none v x w hv hok hf).mono fun e w' ⟨he, hE⟩ => ⟨.slice none 0 0, by rw [he]; simp [errB, hf], by simp [bytesB, hf, u8s]; exact Rd.nil _, hE⟩
  | true => exact (put_ret v x w hv hok hf).mono fun e w' ⟨b, he, ho, hE⟩ => ⟨b, by rw [he]; simp [errB, hf], by simp [bytesB, hf]; exact Rd.of_own ho, hE⟩
theorem rput_any (v : Value) (x : Ent) (w : World) (hv : EntV w v x) (hok : EntOk x) : Calls Try.prog 11 #[v] w (RetPut x w) := by
  cases hf : formedB x with
  | false => exact (rput_none v x w hv hok hf).mono fun e w' ⟨he, hE⟩ => ⟨.slice none 0 0, by rw [he]; simp [errB, hf], by simp [bytesB, hf, u8s]; exact Rd.nil _, hE⟩
  | true => exact (rput_ret v x w hv hok hf).mono fun e w' ⟨b, he, ho, hE⟩ => ⟨b, by rw [he]; simp [errB, hf], by simp [bytesB, hf]; exact Rd.of_own ho, hE⟩

theorem el64 : ElT Try.prog 24 22 (.int .u64 0) 8 := ElT.mk' Try.underlying24 (by kernel_rfl) rfl

theorem rd_mark (w : World) (l : List Value) (e : TypeId) (fr : Nat × Nat) (he : l.length ≤ maxLen) : Rd (w.alloc (.cells l.toArray e fr)) (.slice (some ⟨w.heap.size, 0, none⟩) l.length l.length) l := by
  refine ⟨_, _, rfl, Nat.le_refl _, he, .inr ⟨w.heap.size, 0, rfl, fun j u hj => ?_⟩⟩
  rw [Nat.zero_add, cell_of_row _ w.heap.size j l.toArray e fr (heap_alloc_new w _)]
  simpa using hj

set_option maxHeartbeats 400000 in
theorem awake12 (w : World) : Calls Try.prog 8 #[] w (RetIs (.bool true) w) := by
  have kc := fun (w : World) (C : Array Value) (n c : Nat) => Lib.run_convert_bytes_const (P := Try.prog) w 23 5 C n c Try.underlying23 Try.underlying5
  go_enter Try.func8, Try.ntmps8
  go_wp2_with fail
  have hr := rd_mark w [.int .u8 97] 5 (1, 2) (by unfold maxLen; simp)
  have hok : EntOk ⟨2, 2, 3, 0, [97], []⟩ := ⟨by unfold U64; simp, by simp, by unfold U64; simp, by unfold U64; simp, by intro y hy; simp at hy; subst hy; simp, by intro y hy; simp at hy⟩
  refine (put_any _ ⟨2, 2, 3, 0, [97], []⟩ _ ⟨_, _, rfl, hr, Rd.nil _⟩ hok).mono ?_
  rintro e w2 ⟨b, rfl, hb, hE2⟩
  have e1 : errB ⟨2, 2, 3, 0, [97], []⟩ = 0 := by decide
  have e2 : bytesB ⟨2, 2, 3, 0, [97], []⟩ = [1, 2, 2, 1, 3, 0, 1, 1, 97] := by decide +kernel
  rw [e2] at hb
  rw [e1]
  have hs : strOfNums [1, 2, 2, 1, 3, 0, 1, 1, 97] = ⟨#[1, 2, 2, 1, 3, 0, 1, 1, 97]⟩ := rfl
  have cv := hb.convert Try.underlying23 Try.underlying5 Try.underlying9
  rw [hs] at cv
  clear e1 e2 hs hr
  go_wp2_with fail
  have hr2 := own_lit w2 [.int .u64 1, .int .u64 3] 22 (by unfold maxLen; simp)
  refine (members_ret _ [1, 3] _ (Rd.of_own hr2)).mono ?_
  rintro e w3 ⟨rfl, hE3⟩
  have e3 : membersB [1, 3] = true := by decide
  rw [e3]
  go_wp2_with fail
  go_ret
  exact ⟨rfl, (((Ext.alloc _ _).trans hE2).trans (Ext.alloc _ _)).trans hE3⟩

/-- An entry of one's own. -/
def RetEnt (x : Ent) (w : World) (e : Ending) (w' : World) : Prop := ∃ v, e = .returned v ∧ EntV w' v x ∧ Ext w w'

set_option maxHeartbeats 1000000 in
theorem copied12 (v : Value) (x : Ent) (w : World) (hv : EntV w v x) (hd : x.data.length ≤ 140737488355328) (hm : x.members.length ≤ 17592186044416) : Calls Try.prog 9 #[v] w (RetEnt x w) := by
  obtain ⟨dv, mv, rfl, h1, h2⟩ := hv
  have H1 := Lib.hid h1; have H2 := Lib.hid h2; clear h1 h2
  obtain ⟨ent, hent⟩ : ∃ ent, ent = #[Value.int .u64 x.term, .int .i64 x.kind, .int .u64 x.client, .int .u64 x.seq, dv, mv] := ⟨_, rfl⟩
  obtain ⟨W, hW⟩ : ∃ W, W = (w.alloc (.cells #[Value.int .u64 x.term, .int .i64 x.kind, .int .u64 x.client, .int .u64 x.seq, dv, mv] 26)).alloc (.cells #[.int .u64 0, .int .i64 0, .int .u64 0, .int .u64 0, .slice none 0 0, .slice none 0 0] 26) := ⟨_, rfl⟩
  have hEW : Ext w W := by rw [hW]; exact (Ext.alloc _ _).trans (Ext.alloc _ _)
  have hWs : W.heap.size = w.heap.size + 2 := by rw [hW]; simp
  have HO1 : Hid ((W.alloc (.cells #[] 5)).ownsRow W.heap.size 5 1 (.slice (some ⟨W.heap.size, 0, none⟩) 0 0) 0 []) := own_lit W [] 5 (by simp)
  rw [hWs, hW] at HO1
  go_enter Try.func9, Try.ntmps9
  go_wp2_with (at_builtin; go_loud (refine wpList_append_rd rfl (.tmp 3) (.tmp 5) _ rfl el8 (w.heap.size + 2) _ 0 [] (u8s x.data) rfl HO1.out _ rfl (H1.out.ext ((hEW.trans (by rw [hW]; exact Ext.alloc _ _)))) (u8s_one _) (by rw [u8s_len]; omega) (by rw [u8s_len]; unfold maxLen; omega) (by simp) ?_))
  intro v6 w4 ho4 hg4
  have hb4 : Below (w.heap.size + 2) W w4 := by
    refine Below.trans (b := W.alloc (.cells #[] 5)) ((Below.refl _ _).alloc (by omega) _) ?_
    rw [hW]
    exact (Below.refl _ _).grown hg4 (by simp) (by intro k hk; simp [Value.ownBlock] at hk; omega)
  have hB0 : Blk w4 w.heap.size #[.int .u64 x.term, .int .i64 x.kind, .int .u64 x.client, .int .u64 x.seq, dv, mv] 26 := by
    refine Blk.below (w := W) ?_ hb4 (by omega)
    rw [hW]; exact (Blk.new _ _ _).alloc _
  have hB1 : Blk w4 (w.heap.size + 1) #[.int .u64 0, .int .i64 0, .int .u64 0, .int .u64 0, .slice none 0 0, .slice none 0 0] 26 := by
    refine Blk.below (w := W) ?_ hb4 (by omega)
    rw [hW]; have := Blk.new (w.alloc (.cells #[Value.int .u64 x.term, .int .i64 x.kind, .int .u64 x.client, .int .u64 x.seq, dv, mv] 26)) #[.int .u64 0, .int .i64 0, .int .u64 0, .int .u64 0, .slice none 0 0, .slice none 0 0] 26
    simpa using this
  have hR6 := Rd.of_own ho4
  obtain ⟨a6, n6, b6, rfl⟩ := Rd.shape hR6
  have hE4 : Below w.heap.size w w4 := Below.trans hEW (hb4.mono (by omega))
  have hs4 : w.heap.size + 2 ≤ w4.heap.size := by have := hb4.size; omega
  have hE5 : Below w.heap.size w (w4.setCell ⟨w.heap.size, 4, none⟩ (.slice a6 n6 b6)) := hE4.setCell (Nat.le_refl _) _
  have hB0' := hB0.set 4 (.slice a6 n6 b6)
  have hB1' := hB1.other ⟨w.heap.size, 4, none⟩ (.slice a6 n6 b6) (by simp)
  have ho5 := ownsRow_setCell_below ho4 (a := ⟨w.heap.size, 4, none⟩) (by simp) (.slice a6 n6 b6)
  simp only [List.setIfInBounds_toArray, List.set_cons_succ, List.set_cons_zero] at hB0'
  obtain ⟨c0, c1, c2, c3, c4, c5⟩ := hB0.six
  obtain ⟨_, _, _, _, f4, f5⟩ := hB0.six_free
  have hsz : (w4.setCell ⟨w.heap.size, 4, none⟩ (.slice a6 n6 b6)).heap.size = w4.heap.size := by simp [World.setCell]
  have HO5 := Lib.hid ho5; have HB0 := Lib.hid hB0'; have HB1 := Lib.hid hB1'; have HSZ := Lib.hid hsz
  clear ho4 ho5 hg4 hb4 hR6 hB0 hB1 hB0' hB1' hsz hent hE4
  go_upto_region 2 with fail
  have HE5 := Lib.hid hE5; clear hE5 c0 c1 c2 c3 c4 c5 f4 f5
  generalize w4.setCell ⟨w.heap.size, 4, none⟩ (.slice a6 n6 b6) = W5 at *
  have HO6 : Hid ((W5.alloc (.cells #[] 22)).ownsRow W5.heap.size 22 1 (.slice (some ⟨W5.heap.size, 0, none⟩) 0 0) 0 []) := own_lit W5 [] 22 (by simp)
  have hs5 : w.heap.size + 2 ≤ W5.heap.size := by rw [HSZ.out]; exact hs4
  have HS5 := Lib.hid hs5
  have hB0a := HB0.out.alloc (.cells #[] 22)
  obtain ⟨c0, c1, c2, c3, c4, c5⟩ := hB0a.six
  clear hB0a
  go_wp2_with (at_builtin; go_loud (refine wpList_append_rd rfl (.tmp 8) (.tmp 10) _ rfl el64 W5.heap.size _ 0 [] (u64s x.members) rfl HO6.out _ rfl (H2.out.ext (show Ext w _ from Below.alloc HE5.out (Nat.le_trans (Nat.le_add_right _ _) HS5.out) _)) (u64s_one _) (by rw [u64s_len]; omega) (by rw [u64s_len]; unfold maxLen; omega) (by simp) ?_))
  clear c0 c1 c2 c3 c4 c5
  intro v9 w6 ho6 hg6
  have hE6 : Ext W5 w6 := Below.grown (Ext.alloc W5 (.cells #[] 22)) hg6 (by simp) (by intro k hk; simp [Value.ownBlock] at hk; omega)
  have hR9 := Rd.of_own ho6
  obtain ⟨a9, n9, b9, rfl⟩ := Rd.shape hR9
  have hB0 := HB0.out.ext hE6
  have hB1 := HB1.out.ext hE6
  have hE7 : Below w.heap.size w (w6.setCell ⟨w.heap.size, 5, none⟩ (.slice a9 n9 b9)) := (Below.trans HE5.out (Below.mono hE6 (Nat.le_trans (Nat.le_add_right _ _) hs5))).setCell (Nat.le_refl _) _
  have hB0' := hB0.set 5 (.slice a9 n9 b9)
  have hB1' := hB1.other ⟨w.heap.size, 5, none⟩ (.slice a9 n9 b9) (by simp)
  have ho7 := ownsRow_setCell_below ho6 (a := ⟨w.heap.size, 5, none⟩) (by simp; omega) (.slice a9 n9 b9)
  have ho57 := ownsRow_setCell_below (own_ext HO5.out hE6) (a := ⟨w.heap.size, 5, none⟩) (by simp) (.slice a9 n9 b9)
  simp only [List.setIfInBounds_toArray, List.set_cons_succ, List.set_cons_zero] at hB0'
  obtain ⟨c0, c1, c2, c3, c4, c5⟩ := hB0.six
  obtain ⟨_, _, _, _, f4, f5⟩ := hB0.six_free
  have HO7 := Lib.hid (own_base ho7 hs5); have HO57 := Lib.hid ho57; have HB0b := Lib.hid hB0'; have HB1b := Lib.hid hB1'; have HE7 := Lib.hid hE7
  clear ho6 ho7 ho57 hg6 hR9 hB0 hB1 hB0' hB1' hE7
  go_upto_region 3 with fail
  clear c0 c1 c2 c3 c4 c5 f4 f5
  generalize w6.setCell ⟨w.heap.size, 5, none⟩ (.slice a9 n9 b9) = W7 at *
  obtain ⟨c0, c1, c2, c3, c4, c5⟩ := HB0b.out.six
  obtain ⟨z0, z1, z2, z3, z4, z5⟩ := HB1b.out.six
  obtain ⟨f0, f1, f2, f3, f4, f5⟩ := HB1b.out.six_free
  go_wp2_with fail
  refine bodyPost_ret (v := .agg #[.int .u64 x.term, .int .i64 x.kind, .int .u64 x.client, .int .u64 x.seq, .slice a6 n6 b6, .slice a9 n9 b9]) (by simp [results, Try.results9, go_sem, z0, z1, z2, z3, z4, z5]) rfl ⟨_, rfl, ⟨_, _, rfl, ?_, ?_⟩, ?_⟩
  · refine Rd.of_own (base := w.heap.size + 2) (e := 5) (n := (u8s x.data).length) ?_
    repeat (refine ownsRow_setCell_below ?_ (by simp) _)
    simpa using HO57.out
  · refine Rd.of_own (base := w.heap.size + 2) (e := 22) (n := (u64s x.members).length) ?_
    repeat (refine ownsRow_setCell_below ?_ (by simp) _)
    simpa using HO7.out
  · show Below w.heap.size w _
    repeat (refine Below.setCell ?_ (by simp) _)
    exact HE7.out

set_option maxHeartbeats 2000000 in
theorem lays_law (v : Value) (x : Ent) (w : World) (hv : EntV w v x) (hok : EntOk x) (hd : x.data.length ≤ 140737488355328) (hm : x.members.length ≤ 17592186044416) : Calls Try.prog 3 #[v] w (RetIs (.bool true) w) := by
  have HV := Lib.hid hv
  obtain ⟨dv, mv, rfl, h1, h2⟩ := hv
  have HM := Lib.hid h2
  clear h1 h2
  go_enter Try.func3, Try.ntmps3
  go_wp2_with fail
  refine (awake12 _).mono ?_
  rintro e w1 ⟨rfl, hE1⟩
  have hB := (Blk.new w #[Value.int .u64 x.term, .int .i64 x.kind, .int .u64 x.client, .int .u64 x.seq, dv, mv] 26).ext hE1
  have hEw1 : Ext w w1 := (Ext.alloc _ _).trans hE1
  have HB := Lib.hid hB; clear hB
  obtain ⟨c0, c1, c2, c3, c4, c5⟩ := HB.out.six
  go_wp2_with fail
  refine (copied12 _ x w1 (HV.out.ext hEw1) hd hm).mono ?_
  rintro e w2 ⟨v2, rfl, hv2, hE2⟩
  have HV2 := Lib.hid hv2
  obtain ⟨dv2, mv2, rfl, g1, g2⟩ := hv2
  obtain ⟨p1, p2, p3, rfl⟩ := Rd.shape g1
  obtain ⟨q1, q2, q3, rfl⟩ := Rd.shape g2
  have HM2 := Lib.hid g2
  clear g1 g2 c0 c1 c2 c3 c4 c5
  have hnew := Blk.new w2 #[Value.int .u64 x.term, .int .i64 x.kind, .int .u64 x.client, .int .u64 x.seq, (.slice p1 p2 p3), (.slice q1 q2 q3)] 26
  have HB2 := Lib.hid hnew; clear hnew
  go_wp2_with fail
  refine (put_any _ x _ (HV2.out.ext (Ext.alloc _ _)) hok).mono ?_
  rintro e w3 ⟨a, rfl, ha, hE3⟩
  have HA := Lib.hid ha; clear ha
  have hE23 : Ext w2 w3 := (Ext.alloc _ _).trans hE3
  have hBx := HB.out.ext (hE2.trans hE23)
  obtain ⟨c0, c1, c2, c3, c4, c5⟩ := hBx.six
  clear hBx
  go_wp2_with fail
  refine (rput_any _ x w3 (HV.out.ext ((hEw1.trans hE2).trans hE23)) hok).mono ?_
  rintro e w4 ⟨b, rfl, hb, hE4⟩
  have HBB := Lib.hid hb; clear hb c0 c1 c2 c3 c4 c5
  have hEw4 : Ext w w4 := ((hEw1.trans hE2).trans hE23).trans hE4
  go_wp2_with fail
  have F : Hid (∀ w3', Ext w4.drew w3' → (w3'.cell? ⟨w.heap.size, 0, none⟩ = some (.int .u64 x.term) ∧ w3'.cell? ⟨w.heap.size, 1, none⟩ = some (.int .i64 x.kind) ∧ w3'.cell? ⟨w.heap.size, 2, none⟩ = some (.int .u64 x.client) ∧ w3'.cell? ⟨w.heap.size, 3, none⟩ = some (.int .u64 x.seq) ∧ w3'.cell? ⟨w.heap.size, 4, none⟩ = some dv ∧ w3'.cell? ⟨w.heap.size, 5, none⟩ = some mv) ∧
      (w3'.cell? ⟨w2.heap.size, 0, none⟩ = some (.int .u64 x.term) ∧ w3'.cell? ⟨w2.heap.size, 1, none⟩ = some (.int .i64 x.kind) ∧ w3'.cell? ⟨w2.heap.size, 2, none⟩ = some (.int .u64 x.client) ∧ w3'.cell? ⟨w2.heap.size, 3, none⟩ = some (.int .u64 x.seq) ∧ w3'.cell? ⟨w2.heap.size, 4, none⟩ = some (.slice p1 p2 p3) ∧ w3'.cell? ⟨w2.heap.size, 5, none⟩ = some (.slice q1 q2 q3)) ∧
      (Go.convert 23 9 a).run Try.prog w3' = .ok (.string (strOfNums (bytesB x))) w3' ∧ (Go.convert 23 9 b).run Try.prog w3' = .ok (.string (strOfNums (bytesB x))) w3') := by
    intro w' h'
    have k : Ext w4 w' := (Ext.drew _).trans h'
    exact ⟨(HB.out.ext ((hE2.trans hE23).trans (hE4.trans k))).six, (HB2.out.ext (hE3.trans (hE4.trans k))).six, ((HA.out.ext hE4).ext k).convert Try.underlying23 Try.underlying5 Try.underlying9, (HBB.out.ext k).convert Try.underlying23 Try.underlying5 Try.underlying9⟩
  have HE23 : Ext w2 w4 := hE23.trans hE4
  apply Mono.region1 31 Ext [.is _, .is _, .is _, .is _, .is _, .is _, .is _, .is _, .is _, .is _, .is _, .is _, .is _, .is _, .is _, .is _, .is _, .is _, .is _, .is _, .is _, .is _, .is _, .is _, .is _, .is _, .is _, .is _, .is _, .is _, .is _]
    (by kernel_rfl) Ext.refl (fun _ _ _ => Ext.trans) (by kernel_rfl) rfl rfl trivial
  focus
    iterate 1 (apply Mono.step_is; (· refine Mono.obl_mk fun w3 hE3 _ K hK => ?_; obtain ⟨⟨c0, c1, c2, c3, c4, c5⟩, ⟨d0, d1, d2, d3, d4, d5⟩, cv1, cv2⟩ := F.out w3 hE3; have k3 : Ext w4 w3 := (Ext.drew _).trans hE3; go_wp2_with fail; simp only [Act.put, List.setIfInBounds_toArray, List.set_cons_succ, List.set_cons_zero] at hK; exact hK _ _ (Ext.refl _) (Mono.is_rfl _ _)); simp only [Act.put, List.setIfInBounds_toArray, List.set_cons_succ, List.set_cons_zero])
    apply Mono.step_is
    · refine Mono.obl_mk fun w3 hE3 _ K hK => ?_
      obtain ⟨⟨c0, c1, c2, c3, c4, c5⟩, ⟨d0, d1, d2, d3, d4, d5⟩, cv1, cv2⟩ := F.out w3 hE3; have k3 : Ext w4 w3 := (Ext.drew _).trans hE3
      go_wp2_with fail
      refine (formed_ret _ x _ (HV2.out.ext (HE23.trans k3)) hok).mono ?_
      rintro e w4 ⟨rfl, hE4⟩
      go_wp2_with fail
      simp only [Act.put, List.setIfInBounds_toArray, List.set_cons_succ, List.set_cons_zero] at hK
      exact hK _ _ hE4 (Mono.is_rfl _ _)
    simp only [Act.put, List.setIfInBounds_toArray, List.set_cons_succ, List.set_cons_zero]
    iterate 1 (apply Mono.step_is; (· refine Mono.obl_mk fun w3 hE3 _ K hK => ?_; obtain ⟨⟨c0, c1, c2, c3, c4, c5⟩, ⟨d0, d1, d2, d3, d4, d5⟩, cv1, cv2⟩ := F.out w3 hE3; have k3 : Ext w4 w3 := (Ext.drew _).trans hE3; go_wp2_with fail; simp only [Act.put, List.setIfInBounds_toArray, List.set_cons_succ, List.set_cons_zero] at hK; exact hK _ _ (Ext.refl _) (Mono.is_rfl _ _)); simp only [Act.put, List.setIfInBounds_toArray, List.set_cons_succ, List.set_cons_zero])
    apply Mono.step_is
    · refine Mono.obl_mk fun w3 hE3 _ K hK => ?_
      obtain ⟨⟨c0, c1, c2, c3, c4, c5⟩, ⟨d0, d1, d2, d3, d4, d5⟩, cv1, cv2⟩ := F.out w3 hE3; have k3 : Ext w4 w3 := (Ext.drew _).trans hE3
      go_wp2_with fail
      refine (rformed_ret _ x _ (HV.out.ext (hEw4.trans k3)) hok).mono ?_
      rintro e w4 ⟨rfl, hE4⟩
      go_wp2_with fail
      simp only [Act.put, List.setIfInBounds_toArray, List.set_cons_succ, List.set_cons_zero] at hK
      exact hK _ _ hE4 (Mono.is_rfl _ _)
    simp only [Act.put, List.setIfInBounds_toArray, List.set_cons_succ, List.set_cons_zero]
    iterate 4 (apply Mono.step_is; (· refine Mono.obl_mk fun w3 hE3 _ K hK => ?_; obtain ⟨⟨c0, c1, c2, c3, c4, c5⟩, ⟨d0, d1, d2, d3, d4, d5⟩, cv1, cv2⟩ := F.out w3 hE3; have k3 : Ext w4 w3 := (Ext.drew _).trans hE3; go_wp2_with fail; simp only [Act.put, List.setIfInBounds_toArray, List.set_cons_succ, List.set_cons_zero] at hK; exact hK _ _ (Ext.refl _) (Mono.is_rfl _ _)); simp only [Act.put, List.setIfInBounds_toArray, List.set_cons_succ, List.set_cons_zero])
    apply Mono.step_is
    · refine Mono.obl_mk fun w3 hE3 _ K hK => ?_
      obtain ⟨⟨c0, c1, c2, c3, c4, c5⟩, ⟨d0, d1, d2, d3, d4, d5⟩, cv1, cv2⟩ := F.out w3 hE3; have k3 : Ext w4 w3 := (Ext.drew _).trans hE3
      go_wp2_with fail
      refine (members_ret _ x.members _ (HM2.out.ext (HE23.trans k3))).mono ?_
      rintro e w4 ⟨rfl, hE4⟩
      go_wp2_with fail
      simp only [Act.put, List.setIfInBounds_toArray, List.set_cons_succ, List.set_cons_zero] at hK
      exact hK _ _ hE4 (Mono.is_rfl _ _)
    simp only [Act.put, List.setIfInBounds_toArray, List.set_cons_succ, List.set_cons_zero]
    iterate 2 (apply Mono.step_is; (· refine Mono.obl_mk fun w3 hE3 _ K hK => ?_; obtain ⟨⟨c0, c1, c2, c3, c4, c5⟩, ⟨d0, d1, d2, d3, d4, d5⟩, cv1, cv2⟩ := F.out w3 hE3; have k3 : Ext w4 w3 := (Ext.drew _).trans hE3; go_wp2_with fail; simp only [Act.put, List.setIfInBounds_toArray, List.set_cons_succ, List.set_cons_zero] at hK; exact hK _ _ (Ext.refl _) (Mono.is_rfl _ _)); simp only [Act.put, List.setIfInBounds_toArray, List.set_cons_succ, List.set_cons_zero])
    apply Mono.step_is
    · refine Mono.obl_mk fun w3 hE3 _ K hK => ?_
      obtain ⟨⟨c0, c1, c2, c3, c4, c5⟩, ⟨d0, d1, d2, d3, d4, d5⟩, cv1, cv2⟩ := F.out w3 hE3; have k3 : Ext w4 w3 := (Ext.drew _).trans hE3
      go_wp2_with fail
      refine (rmembers_ret _ x.members _ (HM.out.ext (hEw4.trans k3))).mono ?_
      rintro e w4 ⟨rfl, hE4⟩
      go_wp2_with fail
      simp only [Act.put, List.setIfInBounds_toArray, List.set_cons_succ, List.set_cons_zero] at hK
      exact hK _ _ hE4 (Mono.is_rfl _ _)
    simp only [Act.put, List.setIfInBounds_toArray, List.set_cons_succ, List.set_cons_zero]
    iterate 17 (apply Mono.step_is; (· refine Mono.obl_mk fun w3 hE3 _ K hK => ?_; obtain ⟨⟨c0, c1, c2, c3, c4, c5⟩, ⟨d0, d1, d2, d3, d4, d5⟩, cv1, cv2⟩ := F.out w3 hE3; have k3 : Ext w4 w3 := (Ext.drew _).trans hE3; go_wp2_with fail; simp only [Act.put, List.setIfInBounds_toArray, List.set_cons_succ, List.set_cons_zero] at hK; exact hK _ _ (Ext.refl _) (Mono.is_rfl _ _)); simp only [Act.put, List.setIfInBounds_toArray, List.set_cons_succ, List.set_cons_zero])
    apply Mono.step_is
    · refine Mono.obl_mk fun w3 hE3 _ K hK => ?_
      obtain ⟨⟨c0, c1, c2, c3, c4, c5⟩, ⟨d0, d1, d2, d3, d4, d5⟩, cv1, cv2⟩ := F.out w3 hE3; have k3 : Ext w4 w3 := (Ext.drew _).trans hE3
      go_wp2_with fail
      refine (rsame_ret _ _ x x _ (HV2.out.ext (HE23.trans k3)) (HV.out.ext (hEw4.trans k3)) hok hok).mono ?_
      rintro e w4 ⟨rfl, hE4⟩
      go_wp2_with fail
      simp only [Act.put, List.setIfInBounds_toArray, List.set_cons_succ, List.set_cons_zero] at hK
      exact hK _ _ hE4 (Mono.is_rfl _ _)
    simp only [Act.put, List.setIfInBounds_toArray, List.set_cons_succ, List.set_cons_zero]
    iterate 1 (apply Mono.step_is; (· refine Mono.obl_mk fun w3 hE3 _ K hK => ?_; obtain ⟨⟨c0, c1, c2, c3, c4, c5⟩, ⟨d0, d1, d2, d3, d4, d5⟩, cv1, cv2⟩ := F.out w3 hE3; have k3 : Ext w4 w3 := (Ext.drew _).trans hE3; go_wp2_with fail; simp only [Act.put, List.setIfInBounds_toArray, List.set_cons_succ, List.set_cons_zero] at hK; exact hK _ _ (Ext.refl _) (Mono.is_rfl _ _)); simp only [Act.put, List.setIfInBounds_toArray, List.set_cons_succ, List.set_cons_zero])
    refine Mono.step_end fun w3 hE3 _ => ?_
    simp only [List.drop_succ_cons, List.drop_zero]
    go_wp2_with fail
    go_ret
    exact ⟨ret_eq (congrArg Value.bool ((sameB_iff x x).2 rfl)), hEw4.trans ((Ext.drew _).trans hE3)⟩
end Go.Proofs.Ytiaiicgpiiabnaa
