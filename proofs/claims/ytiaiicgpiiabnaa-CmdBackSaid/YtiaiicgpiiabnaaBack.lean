/- The law CmdBack: its walk. -/
import Derived.Test.YtiaiicgpiiabnaaCuts
namespace Go.Proofs.Ytiaiicgpiiabnaa
open Go Go.RowKit

theorem getB_err {bs : List Int} {e : Int} (h : getB bs = .error e) : e ≠ 0 := by
  simp only [getB] at h
  split at h
  · rename_i heq; cases h; exact rdEnt_err heq
  · split at h
    · cases h
    · cases h; decide

set_option maxHeartbeats 4000000 in
theorem back_law (v v1 : Value) (x : Ent) (bs : List Int) (w : World) (hv : EntV w v x) (hok : EntOk x) (hR : Rd w v1 (u8s bs)) (hb8 : B8 bs) (hl : bs.length ≤ 140737488355000) :
    Calls Try.prog 7 #[v, v1] w (RetIs (.bool true) w) := by
  have HV := Lib.hid hv
  obtain ⟨da, dn, dc, ma, mn, mc, rfl⟩ := hv.shape
  obtain ⟨av, nv, cv, rfl⟩ := Rd.shape hR
  have HR := Lib.hid hR
  have HOK := Lib.hid hok
  clear hv hR hok
  go_enter Try.func7, Try.ntmps7
  go_wp2_with fail
  refine (awake12 _).mono ?_
  rintro e w1 ⟨rfl, hE1⟩
  have hEw1 : Ext w w1 := (Ext.alloc _ _).trans hE1
  have hB1 : Blk w1 w.heap.size #[Value.int .u64 x.term, .int .i64 x.kind, .int .u64 x.client, .int .u64 x.seq, .slice da dn dc, .slice ma mn mc] 26 := (Blk.new w _ _).ext hE1
  obtain ⟨c0, c1, c2, c3, c4, c5⟩ := hB1.six
  have HE1 := Lib.hid hEw1
  have HB1 := Lib.hid hB1
  clear hE1 hEw1 hB1
  go_wp2_with fail
  refine (put_any _ x w1 (HV.out.ext HE1.out) HOK.out).mono ?_
  rintro e w2 ⟨b, rfl, hb, hE2⟩
  clear c0 c1 c2 c3 c4 c5
  obtain ⟨ba, bn, bc, rfl⟩ := Rd.shape hb
  have HB := Lib.hid hb; have HE2 := Lib.hid (HE1.out.trans hE2)
  have hB2 := HB1.out.ext hE2
  obtain ⟨c0, c1, c2, c3, c4, c5⟩ := hB2.six
  have HB2 := Lib.hid hB2
  clear hb hE2 hB2
  obtain ⟨eb, heb⟩ : ∃ eb, eb = errB x := ⟨_, rfl⟩
  rw [← heb]
  have heq : (eb == 0) = formedB x := by rw [heb]; simp only [errB]; split <;> simp_all
  have HEB := Lib.hid heb
  have HEQ := Lib.hid heq
  clear heb heq
  go_wp2_with fail
  refine (formed_ret _ x _ (HV.out.ext HE2.out) HOK.out).mono ?_
  rintro en w3 ⟨rfl, hE3⟩
  clear c0 c1 c2 c3 c4 c5
  have HE3 := Lib.hid (HE2.out.trans hE3)
  have hB3 := HB2.out.ext hE3
  have HBB := Lib.hid (HB.out.ext hE3)
  have HB3 := Lib.hid hB3
  clear hE3 hB3
  cases hfx : formedB x with
  | false =>
    have hq := HEQ.out
    rw [hfx] at hq
    have hq1 : eb = 1 := by rw [HEB.out]; simp [errB, hfx]
    subst hq1
    have HEW := HE3
    clear hfx hq
    go_wp2_with fail
    obtain ⟨W, hW⟩ : ∃ W, W = w3 := ⟨_, rfl⟩
    subst hW
    have hRw := HR.out.ext HEW.out
    have HRW := Lib.hid hRw
    clear hRw
    refine (get_c _ bs W HRW.out hb8 (by omega)).mono ?_
    rintro en w4 ⟨hE4, v4, e4, x4, rfl, ⟨hv4, _⟩, hm4⟩
    rcases hX : getB bs with no | y
    · rw [hX] at hm4
      obtain ⟨rfl, rfl⟩ := hm4
      obtain ⟨da4, dn4, dc4, ma4, mn4, mc4, rfl⟩ := hv4.shape
      have hne : (e4 != 0) = true := by have := getB_err hX; simpa using this
      have hb5 : Blk (w4.alloc (.cells #[.int .u64 0, .int .i64 0, .int .u64 0, .int .u64 0, .slice da4 dn4 dc4, .slice ma4 mn4 mc4] 26)) w4.heap.size #[.int .u64 0, .int .i64 0, .int .u64 0, .int .u64 0, .slice da4 dn4 dc4, .slice ma4 mn4 mc4] 26 := Blk.new _ _ _
      have HV5 := Lib.hid (hv4.ext (Ext.alloc w4 (.cells #[.int .u64 0, .int .i64 0, .int .u64 0, .int .u64 0, .slice da4 dn4 dc4, .slice ma4 mn4 mc4] 26)))
      have HE5 := Lib.hid ((HEW.out.trans hE4).trans (Ext.alloc w4 (.cells #[.int .u64 0, .int .i64 0, .int .u64 0, .int .u64 0, .slice da4 dn4 dc4, .slice ma4 mn4 mc4] 26)))
      obtain ⟨p0, p1, p2, p3, p4, p5⟩ := hb5.six
      clear hv4 hE4 hX hb5
      go_wp2_with fail
      refine (same_ret _ _ ⟨0, 0, 0, 0, [], []⟩ ⟨0, 0, 0, 0, [], []⟩ _ HV5.out ⟨_, _, rfl, Rd.nil _, Rd.nil _⟩ EntOk.zero EntOk.zero).mono ?_
      rintro en w9 ⟨rfl, hE9⟩
      rw [sameB_self]
      go_wp2_with fail
      go_ret
      exact ⟨rfl, HE5.out.trans hE9⟩
    · rw [hX] at hm4
      obtain ⟨rfl, rfl⟩ := hm4
      have hok4 := getB_ok hb8 hX
      obtain ⟨hp4, hf4, hx4⟩ := getB_inv bs x4 hb8 hX
      obtain ⟨da4, dn4, dc4, ma4, mn4, mc4, rfl⟩ := hv4.shape
      have hb5 : Blk (w4.alloc (.cells #[.int .u64 x4.term, .int .i64 x4.kind, .int .u64 x4.client, .int .u64 x4.seq, .slice da4 dn4 dc4, .slice ma4 mn4 mc4] 26)) w4.heap.size #[.int .u64 x4.term, .int .i64 x4.kind, .int .u64 x4.client, .int .u64 x4.seq, .slice da4 dn4 dc4, .slice ma4 mn4 mc4] 26 := Blk.new _ _ _
      have HB5 := Lib.hid hb5
      have HV5 := Lib.hid (hv4.ext (Ext.alloc w4 (.cells #[.int .u64 x4.term, .int .i64 x4.kind, .int .u64 x4.client, .int .u64 x4.seq, .slice da4 dn4 dc4, .slice ma4 mn4 mc4] 26)))
      have HE5 := Lib.hid ((HEW.out.trans hE4).trans (Ext.alloc w4 (.cells #[.int .u64 x4.term, .int .i64 x4.kind, .int .u64 x4.client, .int .u64 x4.seq, .slice da4 dn4 dc4, .slice ma4 mn4 mc4] 26)))
      obtain ⟨p0, p1, p2, p3, p4, p5⟩ := hb5.six
      have HOK4 := Lib.hid hok4; have HP4 := Lib.hid hp4; have HF4 := Lib.hid hf4
      clear hv4 hE4 hX hb5 hok4 hp4 hf4 hx4
      go_wp2_with fail
      refine (put_any _ x4 _ HV5.out HOK4.out).mono ?_
      rintro en w6 ⟨q6, rfl, hq6, hE6⟩
      have e1 : errB x4 = 0 := by simp [errB, HF4.out]
      have e2 : bytesB x4 = bs := by simp [bytesB, HF4.out, HP4.out]
      rw [e2] at hq6
      rw [e1]
      have hb6 := HB5.out.ext hE6
      have HV6 := Lib.hid (HV5.out.ext hE6)
      clear p0 p1 p2 p3 p4 p5 e1 e2
      obtain ⟨p0, p1, p2, p3, p4, p5⟩ := hb6.six
      have cv1 := hq6.convert Try.underlying23 Try.underlying5 Try.underlying9
      have cv2 := (HR.out.ext (HE5.out.trans hE6)).convert Try.underlying23 Try.underlying5 Try.underlying9
      have HE6 := Lib.hid (HE5.out.trans hE6)
      clear hb6 hq6 hE6
      go_wp2_with fail
      refine (formed_ret _ x4 _ HV6.out HOK4.out).mono ?_
      rintro en w9 ⟨rfl, hE9⟩
      rw [HF4.out]
      go_wp2_with fail
      go_ret
      exact ⟨rfl, HE6.out.trans hE9⟩
  | true =>
    have hq1 : eb = 0 := by rw [HEB.out]; simp [errB, hfx]
    subst hq1
    have e2 : bytesB x = putB x := by simp [bytesB, hfx]
    have hbb := HBB.out
    rw [e2] at hbb
    have HBX := Lib.hid hbb
    have HF := Lib.hid hfx
    clear hfx e2 hbb
    go_wp2_with fail
    refine (get_c _ _ w3 HBX.out (putB_B8 x HOK.out) (by have := putB_len x HF.out; omega)).mono ?_
    rintro en w4 ⟨hE4, v4, e4, x4, rfl, ⟨hv4, _⟩, hm4⟩
    rw [getB_put x HF.out HOK.out.fit] at hm4
    obtain ⟨rfl, rfl⟩ := hm4
    obtain ⟨da', dn', dc', ma', mn', mc', rfl⟩ := hv4.shape
    have hb7 := (HB3.out.ext hE4).alloc (.cells #[.int .u64 x4.term, .int .i64 x4.kind, .int .u64 x4.client, .int .u64 x4.seq, .slice da' dn' dc', .slice ma' mn' mc'] 26)
    have hb8' : Blk (w4.alloc (.cells #[.int .u64 x4.term, .int .i64 x4.kind, .int .u64 x4.client, .int .u64 x4.seq, .slice da' dn' dc', .slice ma' mn' mc'] 26)) w4.heap.size #[.int .u64 x4.term, .int .i64 x4.kind, .int .u64 x4.client, .int .u64 x4.seq, .slice da' dn' dc', .slice ma' mn' mc'] 26 := Blk.new _ _ _
    have hv7 := (HV.out.ext (HE3.out.trans hE4)).ext (Ext.alloc w4 (.cells #[.int .u64 x4.term, .int .i64 x4.kind, .int .u64 x4.client, .int .u64 x4.seq, .slice da' dn' dc', .slice ma' mn' mc'] 26))
    have hv8 := hv4.ext (Ext.alloc w4 (.cells #[.int .u64 x4.term, .int .i64 x4.kind, .int .u64 x4.client, .int .u64 x4.seq, .slice da' dn' dc', .slice ma' mn' mc'] 26))
    have hE8 := (HE3.out.trans hE4).trans (Ext.alloc w4 (.cells #[.int .u64 x4.term, .int .i64 x4.kind, .int .u64 x4.client, .int .u64 x4.seq, .slice da' dn' dc', .slice ma' mn' mc'] 26))
    have HV7 := Lib.hid hv7; have HV8 := Lib.hid hv8; have HE8 := Lib.hid hE8
    obtain ⟨c0, c1, c2, c3, c4, c5⟩ := hb7.six
    obtain ⟨p0, p1, p2, p3, p4, p5⟩ := hb8'.six
    clear hb7 hb8' hv7 hv8 hE8 hv4 hE4
    go_wp2_with fail
    refine (same_ret _ _ x4 x4 _ HV7.out HV8.out HOK.out HOK.out).mono ?_
    rintro en W ⟨rfl, hE9⟩
    rw [sameB_self]
    have HEW := Lib.hid (HE8.out.trans hE9)
    clear c0 c1 c2 c3 c4 c5 p0 p1 p2 p3 p4 p5 hE9
    go_wp2_with fail
    have hRw := HR.out.ext HEW.out
    have HRW := Lib.hid hRw
    clear hRw
    refine (get_c _ bs W HRW.out hb8 (by omega)).mono ?_
    rintro en w4 ⟨hE4, v4, e4, x4, rfl, ⟨hv4, _⟩, hm4⟩
    rcases hX : getB bs with no | y
    · rw [hX] at hm4
      obtain ⟨rfl, rfl⟩ := hm4
      obtain ⟨da4, dn4, dc4, ma4, mn4, mc4, rfl⟩ := hv4.shape
      have hne : (e4 != 0) = true := by have := getB_err hX; simpa using this
      have hb5 : Blk (w4.alloc (.cells #[.int .u64 0, .int .i64 0, .int .u64 0, .int .u64 0, .slice da4 dn4 dc4, .slice ma4 mn4 mc4] 26)) w4.heap.size #[.int .u64 0, .int .i64 0, .int .u64 0, .int .u64 0, .slice da4 dn4 dc4, .slice ma4 mn4 mc4] 26 := Blk.new _ _ _
      have HV5 := Lib.hid (hv4.ext (Ext.alloc w4 (.cells #[.int .u64 0, .int .i64 0, .int .u64 0, .int .u64 0, .slice da4 dn4 dc4, .slice ma4 mn4 mc4] 26)))
      have HE5 := Lib.hid ((HEW.out.trans hE4).trans (Ext.alloc w4 (.cells #[.int .u64 0, .int .i64 0, .int .u64 0, .int .u64 0, .slice da4 dn4 dc4, .slice ma4 mn4 mc4] 26)))
      obtain ⟨p0, p1, p2, p3, p4, p5⟩ := hb5.six
      clear hv4 hE4 hX hb5
      go_wp2_with fail
      refine (same_ret _ _ ⟨0, 0, 0, 0, [], []⟩ ⟨0, 0, 0, 0, [], []⟩ _ HV5.out ⟨_, _, rfl, Rd.nil _, Rd.nil _⟩ EntOk.zero EntOk.zero).mono ?_
      rintro en w9 ⟨rfl, hE9⟩
      rw [sameB_self]
      go_wp2_with fail
      go_ret
      exact ⟨rfl, HE5.out.trans hE9⟩
    · rw [hX] at hm4
      obtain ⟨rfl, rfl⟩ := hm4
      have hok4 := getB_ok hb8 hX
      obtain ⟨hp4, hf4, hx4⟩ := getB_inv bs x4 hb8 hX
      obtain ⟨da4, dn4, dc4, ma4, mn4, mc4, rfl⟩ := hv4.shape
      have hb5 : Blk (w4.alloc (.cells #[.int .u64 x4.term, .int .i64 x4.kind, .int .u64 x4.client, .int .u64 x4.seq, .slice da4 dn4 dc4, .slice ma4 mn4 mc4] 26)) w4.heap.size #[.int .u64 x4.term, .int .i64 x4.kind, .int .u64 x4.client, .int .u64 x4.seq, .slice da4 dn4 dc4, .slice ma4 mn4 mc4] 26 := Blk.new _ _ _
      have HB5 := Lib.hid hb5
      have HV5 := Lib.hid (hv4.ext (Ext.alloc w4 (.cells #[.int .u64 x4.term, .int .i64 x4.kind, .int .u64 x4.client, .int .u64 x4.seq, .slice da4 dn4 dc4, .slice ma4 mn4 mc4] 26)))
      have HE5 := Lib.hid ((HEW.out.trans hE4).trans (Ext.alloc w4 (.cells #[.int .u64 x4.term, .int .i64 x4.kind, .int .u64 x4.client, .int .u64 x4.seq, .slice da4 dn4 dc4, .slice ma4 mn4 mc4] 26)))
      obtain ⟨p0, p1, p2, p3, p4, p5⟩ := hb5.six
      have HOK4 := Lib.hid hok4; have HP4 := Lib.hid hp4; have HF4 := Lib.hid hf4
      clear hv4 hE4 hX hb5 hok4 hp4 hf4 hx4
      go_wp2_with fail
      refine (put_any _ x4 _ HV5.out HOK4.out).mono ?_
      rintro en w6 ⟨q6, rfl, hq6, hE6⟩
      have e1 : errB x4 = 0 := by simp [errB, HF4.out]
      have e2 : bytesB x4 = bs := by simp [bytesB, HF4.out, HP4.out]
      rw [e2] at hq6
      rw [e1]
      have hb6 := HB5.out.ext hE6
      have HV6 := Lib.hid (HV5.out.ext hE6)
      clear p0 p1 p2 p3 p4 p5 e1 e2
      obtain ⟨p0, p1, p2, p3, p4, p5⟩ := hb6.six
      have cv1 := hq6.convert Try.underlying23 Try.underlying5 Try.underlying9
      have cv2 := (HR.out.ext (HE5.out.trans hE6)).convert Try.underlying23 Try.underlying5 Try.underlying9
      have HE6 := Lib.hid (HE5.out.trans hE6)
      clear hb6 hq6 hE6
      go_wp2_with fail
      refine (formed_ret _ x4 _ HV6.out HOK4.out).mono ?_
      rintro en w9 ⟨rfl, hE9⟩
      rw [HF4.out]
      go_wp2_with fail
      go_ret
      exact ⟨rfl, HE6.out.trans hE9⟩
end Go.Proofs.Ytiaiicgpiiabnaa
