/- The law MsgCuts: its walk. -/
import Derived.Test.YtnhfjoelfnmgaaaBun8
import Derived.IntWalk
set_option linter.unusedSimpArgs false
set_option linter.unusedVariables false
namespace Go.Proofs.Ytnhfjoelfnmgaaa
open Go Go.RowKit

theorem rem_at3 (a : Int) (n : Nat) (h : 1 ≤ n ∧ n ≤ 300000) : ∃ m : Nat, wrap64 ((IntKind.u64.wrap a).tmod (n : Int)) = (m : Int) ∧ m < n := by
  have h0 : 0 ≤ IntKind.u64.wrap a ∧ IntKind.u64.wrap a < 18446744073709551616 := by
    simp only [IntKind.wrap, IntKind.signed, IntKind.bits]
    simp
    omega
  generalize IntKind.u64.wrap a = u at *
  rw [Int.tmod_eq_emod_of_nonneg h0.1]
  have h1 := Int.emod_nonneg u (show (n : Int) ≠ 0 by omega)
  have h2 := Int.emod_lt_of_pos u (show (0 : Int) < n by omega)
  obtain ⟨m, hm⟩ := Int.eq_ofNat_of_zero_le h1
  refine ⟨m, ?_, by omega⟩
  rw [hm]
  exact IntWalk.wrap64_in _ ⟨by omega, by omega⟩

set_option maxHeartbeats 4000000 in
theorem mcuts_law (v : Value) (M : Msg) (at' more : Int) (w : World) (hv : MsgV w 0 v M) (hok : MsgOk M) (hat : -9223372036854775808 ≤ at' ∧ at' ≤ 9223372036854775807) (hmore : 0 ≤ more ∧ more ≤ 255) :
    Calls Try.prog 4 #[v, .int .i64 at', .int .u8 more] w (RetIs (.bool true) w) := by
  have HV := Lib.hid hv
  obtain ⟨a9, am9, ac9, a10, am10, ac10, a11, am11, ac11, rfl⟩ := hv.shape
  have HOK := Lib.hid hok
  clear hv hok
  go_enter Try.func4, Try.ntmps4
  go_wp2_with fail
  refine (awake18 _).mono ?_
  rintro e w1 ⟨rfl, hE1⟩
  have hEw1 : Ext w w1 := (Ext.alloc _ _).trans hE1
  have HB1 := Lib.hid ((Blk.new w #[.int .i64 M.kind, .int .u64 M.src, .int .u64 M.dst, .int .u64 M.term, .int .u64 M.index, .int .u64 M.logTerm, .int .u64 M.commit, .int .u64 M.stamp, .bool M.yes, .slice a9 am9 ac9, .slice a10 am10 ac10, .slice a11 am11 ac11] 28).ext hE1)
  have HE1 := Lib.hid hEw1
  clear hE1 hEw1
  go_wp2_with (refine wpList_load_row rfl 28 (.tmp 3) rfl w.heap.size rfl 28 _ (0, 0) _ HB1.out Try.underlying28 rfl (by kernel_rfl) ?_)
  refine (mput_c _ M 0 w1 (HV.out.ext HE1.out) HOK.out).mono ?_
  rintro e w2 ⟨hE2, b, pe, rfl, hm⟩
  obtain ⟨X, hX⟩ : ∃ X, X = wrM M := ⟨_, rfl⟩
  rw [← hX] at hm
  have HX := Lib.hid hX
  clear hX
  cases X with
  | none =>
    obtain ⟨rfl, rfl⟩ := hm
    have HE2 := Lib.hid (HE1.out.trans hE2)
    clear hE2
    go_wp2_with fail
    go_ret
    exact ⟨rfl, HE2.out⟩
  | some bs =>
    obtain ⟨rfl, hb, _⟩ := hm
    obtain ⟨ys, hys, hbare, rfl⟩ : ∃ ys, wBody M = some ys ∧ bareM M = M ∧ bs = M.kind % 256 :: ys := by
      have h := HX.out
      rw [wrM_eq M HOK.out] at h
      cases hy : wBody M with
      | none => rw [hy] at h; cases h
      | some ys =>
        rw [hy] at h
        simp only at h
        split at h
        · rename_i hc; cases h; exact ⟨ys, rfl, hc, rfl⟩
        · cases h
    have hfine := wBody_fine M HOK.out hys
    have hb8 : B8 (M.kind % 256 :: ys) := by
      intro z hz
      rcases List.mem_cons.1 hz with rfl | hz
      · omega
      · exact hfine.1 z hz
    obtain ⟨bs, hbs⟩ : ∃ bs, bs = M.kind % 256 :: ys := ⟨_, rfl⟩
    rw [← hbs] at hb hb8
    have hlen : 1 ≤ bs.length ∧ bs.length ≤ 300000 := by rw [hbs]; have := hfine.2; simp only [List.length_cons]; omega
    have HCUT : Hid (∀ j, j < bs.length → getM (bs.take j) = .error 2) := Lib.hid (by rw [hbs]; exact fun j hj => getM_cut M HOK.out hys hj)
    have HTAIL : Hid (∀ b, getM (bs ++ [b]) = .error 5) := Lib.hid (by rw [hbs]; exact fun b => getM_tail M HOK.out hys b)
    obtain ⟨ba, bn, bc, rfl⟩ := Rd.shape hb
    have hbn : bn = bs.length := by
      obtain ⟨_, _, hv, _⟩ := hb
      rw [u8s_len] at hv
      cases hv; rfl
    have hbc : bn ≤ bc := by
      obtain ⟨_, _, hv, h1, _⟩ := hb
      rw [u8s_len] at h1
      cases hv; omega
    have HB := Lib.hid hb; have HE2 := Lib.hid (HE1.out.trans hE2); have HBN := Lib.hid hbn
    have hbn1 : 1 ≤ bn ∧ bn ≤ 300000 := by omega
    obtain ⟨hbn1, hbn2⟩ := hbn1
    obtain ⟨hat1, hat2⟩ := hat
    obtain ⟨m, hm, hmn⟩ := rem_at3 at' bn ⟨hbn1, hbn2⟩
    have HM := Lib.hid hmn; have H8 := Lib.hid hb8
    clear hb hE2 hbn hfine hys hbare hlen hbs hb8 HX
    go_wp2_with fail
    refine (mget_c _ _ w2 (HB.out.take (N := m) (by rw [← HBN.out]; omega)) (fun y hy => H8.out y (List.mem_of_mem_take hy)) (by rw [List.length_take, ← HBN.out]; omega)).mono ?_
    rintro en w3 ⟨hE3, v3, e3, x3, rfl, hv3, hm3⟩
    rw [HCUT.out m (by rw [← HBN.out]; exact HM.out)] at hm3
    obtain ⟨rfl, _, rfl⟩ := hm3
    obtain ⟨b9, bm9, bc9, b10, bm10, bc10, b11, bm11, bc11, rfl⟩ := hv3.shape
    have HE3 := Lib.hid (HE2.out.trans hE3)
    have HB3 := Lib.hid (HB.out.ext hE3)
    clear hv3 hE3 hm
    go_upto_region 7 with fail
    have hE4 := Ext.alloc w3 (.cells #[.int .i64 Msg.zero.kind, .int .u64 Msg.zero.src, .int .u64 Msg.zero.dst, .int .u64 Msg.zero.term, .int .u64 Msg.zero.index, .int .u64 Msg.zero.logTerm, .int .u64 Msg.zero.commit, .int .u64 Msg.zero.stamp, .bool Msg.zero.yes, .slice b9 bm9 bc9, .slice b10 bm10 bc10, .slice b11 bm11 bc11] 28)
    generalize w3.alloc (.cells #[.int .i64 Msg.zero.kind, .int .u64 Msg.zero.src, .int .u64 Msg.zero.dst, .int .u64 Msg.zero.term, .int .u64 Msg.zero.index, .int .u64 Msg.zero.logTerm, .int .u64 Msg.zero.commit, .int .u64 Msg.zero.stamp, .bool Msg.zero.yes, .slice b9 bm9 bc9, .slice b10 bm10 bc10, .slice b11 bm11 bc11] 28) = W at *
    have HO : Hid ((W.alloc (.cells #[] 5)).ownsRow W.heap.size 5 1 (.slice (some ⟨W.heap.size, 0, none⟩) 0 0) 0 []) := own_lit W [] 5 (by simp)
    have HRB := Lib.hid (HB3.out.ext (hE4.trans (Ext.alloc W (.cells #[] 5))))
    have HEW := Lib.hid (HE3.out.trans (hE4.trans (Ext.alloc W (.cells #[] 5))))
    have hlw : w.heap.size ≤ W.heap.size := (HE3.out.trans hE4).size
    clear hE4
    go_wp2_with (at_builtin; go_loud (refine wpList_append_rd rfl (.tmp 43) (.tmp 44) _ rfl el8 W.heap.size _ 0 [] (u8s bs) rfl HO.out _ rfl HRB.out (u8s_one _) (by rw [u8s_len, ← HBN.out]; omega) (by rw [u8s_len, ← HBN.out]; unfold maxLen; omega) (by simp) ?_))
    intro v7 w7 ho7 hg7
    have hs7 := hg7.size
    simp at hs7
    have hE7 : Ext w w7 := Below.grown HEW.out hg7 (by simp; omega) (by intro k hk; simp [Value.ownBlock] at hk; omega)
    have HO7 := Lib.hid ho7
    have HE7 := Lib.hid hE7
    clear ho7 hg7 hE7
    go_wp2_with (at_builtin; go_loud (refine wpList_push rfl (.tmp 45) (.tmp 47) _ rfl el8 W.heap.size _ _ _ (.int .u8 more) rfl HO7.out 5 rfl rfl (by rw [u8s_len, ← HBN.out]; omega) (by rw [u8s_len, ← HBN.out]; unfold maxLen; omega) (by omega) ?_))
    intro v8 w8 ho8 hg8
    have hE8 : Ext w w8 := Below.grown HE7.out hg8 HE7.out.size fun k hk => by have := own_block HO7.out k hk; omega
    have hr8 : Rd w8 v8 (u8s (bs ++ [more])) := by
      have := Rd.of_own (own_n ho8)
      simpa [u8s] using this
    have HR8 := Lib.hid hr8; have HE8 := Lib.hid hE8
    clear ho8 hg8 hr8 hE8
    go_wp2_with fail
    refine (mget_c _ _ w8 HR8.out (H8.out.append (by intro y hy; simp at hy; omega)) (by rw [List.length_append, ← HBN.out]; simp; omega)).mono ?_
    rintro en w9 ⟨hE9, v9, e9, x9, rfl, hv9, hm9⟩
    rw [HTAIL.out more] at hm9
    obtain ⟨rfl, _, rfl⟩ := hm9
    obtain ⟨d9, dm9, dc9, d10, dm10, dc10, d11, dm11, dc11, rfl⟩ := hv9.shape
    have HE9 := Lib.hid ((HE8.out.trans hE9).trans (Ext.alloc w9 (.cells #[.int .i64 Msg.zero.kind, .int .u64 Msg.zero.src, .int .u64 Msg.zero.dst, .int .u64 Msg.zero.term, .int .u64 Msg.zero.index, .int .u64 Msg.zero.logTerm, .int .u64 Msg.zero.commit, .int .u64 Msg.zero.stamp, .bool Msg.zero.yes, .slice d9 dm9 dc9, .slice d10 dm10 dc10, .slice d11 dm11 dc11] 28)))
    clear hv9 hE9
    go_wp2_with fail
    go_ret
    exact ⟨rfl, HE9.out⟩
end Go.Proofs.Ytnhfjoelfnmgaaa
