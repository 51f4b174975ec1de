/- The law CmdCuts: its walk. -/
import Derived.Test.YtiaiicgpiiabnaaReads
import Derived.Test.YtiaiicgpiiabnaaCutL
namespace Go.Proofs.Ytiaiicgpiiabnaa
open Go Go.RowKit

theorem own_block {w : World} {base : Nat} {e : TypeId} {sz : Nat} {v : Value} {n : Nat} {xs : List Value} (h : w.ownsRow base e sz v n xs) : ∀ k, v.ownBlock = some k → base ≤ k := by
  intro k hk
  rcases h.2 with ⟨rfl, _⟩ | ⟨g, cap, cur, rfl, hg, _⟩
  · simp [Value.ownBlock] at hk
  · simp [Value.ownBlock] at hk; omega
theorem numB_len_le (n : Nat) : (numB n).length ≤ 9 := by rw [numB_len]; have := numK_le n; omega
theorem flat_len : ∀ (ms : List Int), (ms.flatMap (fun m => numB m.toNat)).length ≤ 9 * ms.length
  | [] => by simp
  | m :: ms => by
    have := numB_len_le m.toNat
    have := flat_len ms
    simp only [List.flatMap_cons, List.length_append, List.length_cons]; omega
theorem putB_len (x : Ent) (hf : formedB x = true) : 1 ≤ (putB x).length ∧ (putB x).length ≤ 200 := by
  obtain ⟨_, hc⟩ := formed_cases x hf
  have h1 := numB_len_le x.term.toNat
  have h2 := numB_len_le x.client.toNat
  have h3 := numB_len_le x.seq.toNat
  have h4 := numB_len_le x.data.length
  have h5 := numB_len_le x.members.length
  have h6 := flat_len x.members
  have h7 : x.members.length ≤ 7 ∨ x.kind ≠ 3 := by
    rcases hc with ⟨hk, _⟩ | ⟨hk, _⟩ | ⟨_, _, _, _, hm⟩
    · right; omega
    · right; omega
    · left
      rcases memGo_len x.members 0 (by omega) hm with h | h
      · omega
      · rw [h]; simp
  have h8 : x.data.length ≤ 64 ∨ x.kind ≠ 2 := by
    rcases hc with ⟨hk, _⟩ | ⟨_, hd, _⟩ | ⟨hk, _⟩
    · right; omega
    · left; exact hd
    · right; omega
  simp only [putB]
  split
  · simp only [List.length_append, List.length_cons, List.length_nil]; omega
  · split
    · simp only [List.length_append, List.length_cons, List.length_nil]; omega
    · simp only [List.length_append, List.length_cons, List.length_nil]; omega
theorem rem_at (a : Int) (n : Nat) (h : 1 ≤ n ∧ n ≤ 200) : ∃ m : Nat, wrap64 ((IntKind.u64.wrap a).tmod (n : Int)) = (m : Int) ∧ m < n := by
  have h0 : 0 ≤ IntKind.u64.wrap a ∧ IntKind.u64.wrap a < 18446744073709551616 := by
    simp only [IntKind.wrap, IntKind.signed, IntKind.bits]
    simp
    omega
  generalize IntKind.u64.wrap a = u at *
  rw [Int.tmod_eq_emod_of_nonneg h0.1]
  have h1 := Int.emod_nonneg u (show (n : Int) ≠ 0 by omega)
  have h2 := Int.emod_lt_of_pos u (show (0 : Int) < n by omega)
  obtain ⟨m, hm⟩ := Int.eq_ofNat_of_zero_le h1
  refine ⟨m, ?_, by omega⟩
  rw [hm]
  exact IntWalk.wrap64_in _ ⟨by omega, by omega⟩

set_option maxHeartbeats 2000000 in
theorem cuts_law (v : Value) (x : Ent) (at' more : Int) (w : World) (hv : EntV w v x) (hok : EntOk x) (hat : -9223372036854775808 ≤ at' ∧ at' ≤ 9223372036854775807) (hmore : 0 ≤ more ∧ more ≤ 255) :
    Calls Try.prog 6 #[v, .int .i64 at', .int .u8 more] w (RetIs (.bool true) w) := by
  have HV := Lib.hid hv
  obtain ⟨da, dn, dc, ma, mn, mc, rfl⟩ := hv.shape
  clear hv
  go_enter Try.func6, Try.ntmps6
  go_wp2_with fail
  refine (awake12 _).mono ?_
  rintro e w1 ⟨rfl, hE1⟩
  have hEw1 : Ext w w1 := (Ext.alloc _ _).trans hE1
  have hB1 : Blk w1 w.heap.size #[Value.int .u64 x.term, .int .i64 x.kind, .int .u64 x.client, .int .u64 x.seq, .slice da dn dc, .slice ma mn mc] 26 := (Blk.new w _ _).ext hE1
  obtain ⟨c0, c1, c2, c3, c4, c5⟩ := hB1.six
  have HE1 := Lib.hid hEw1
  clear hE1 hEw1 hB1
  go_wp2_with fail
  refine (put_any _ x w1 (HV.out.ext HE1.out) hok).mono ?_
  rintro e w2 ⟨b, rfl, hb, hE2⟩
  clear c0 c1 c2 c3 c4 c5
  obtain ⟨ba, bn, bc, rfl⟩ := Rd.shape hb
  have HB := Lib.hid hb; have HE2 := Lib.hid (HE1.out.trans hE2)
  clear hb hE2
  cases hfx : formedB x with
  | false =>
    have e1 : errB x = 1 := by simp [errB, hfx]
    have e2 : bn = 0 := by
      obtain ⟨_, _, hv, _⟩ := HB.out
      simp [bytesB, hfx, u8s] at hv
      exact hv.2.1
    rw [e1]
    subst e2
    clear hfx e1
    go_wp2_with fail
    go_ret
    exact ⟨rfl, HE2.out⟩
  | true =>
    have e1 : errB x = 0 := by simp [errB, hfx]
    have e2 : bytesB x = putB x := by simp [bytesB, hfx]
    have hb := HB.out
    rw [e2] at hb
    have hbn : bn = (putB x).length := by
      obtain ⟨_, _, hv, _⟩ := hb
      rw [u8s_len] at hv
      cases hv; rfl
    have hpl := putB_len x hfx
    rw [e1]
    have HB := Lib.hid hb
    have HF := Lib.hid hfx
    have HBN := Lib.hid hbn
    have hbn1 : 1 ≤ bn ∧ bn ≤ 200 := by omega
    obtain ⟨hbn1, hbn2⟩ := hbn1
    obtain ⟨hat1, hat2⟩ := hat
    obtain ⟨m, hm, hmn⟩ := rem_at at' bn ⟨hbn1, hbn2⟩
    have hbc : bn ≤ bc := by
      obtain ⟨_, _, hv, h1, _⟩ := hb
      rw [u8s_len] at h1
      cases hv; omega
    clear hfx e1 e2 hb hbn hpl
    have hb8 : B8 (putB x) := putB_B8 x hok
    have HM := Lib.hid hmn; have HOK := Lib.hid hok
    go_wp2_with fail
    refine (get_c _ _ w2 (HB.out.take (N := m) (by rw [← HBN.out]; omega)) (fun y hy => hb8 y (List.mem_of_mem_take hy)) (by rw [List.length_take, ← HBN.out]; omega)).mono ?_
    rintro en w3 ⟨hE3, v3, e3, x3, rfl, ⟨hv3, _⟩, hm3⟩
    rw [getB_cut x HF.out HOK.out.fit m (by rw [← HBN.out]; exact HM.out)] at hm3
    obtain ⟨rfl, rfl⟩ := hm3
    obtain ⟨da3, dn3, dc3, ma3, mn3, mc3, rfl⟩ := hv3.shape
    have HE3 := Lib.hid (HE2.out.trans hE3)
    have HB3 := Lib.hid (HB.out.ext hE3)
    clear hv3 hE3 hm
    obtain ⟨W, hW⟩ : ∃ W, W = w3.alloc (.cells #[.int .u64 0, .int .i64 0, .int .u64 0, .int .u64 0, .slice da3 dn3 dc3, .slice ma3 mn3 mc3] 26) := ⟨_, rfl⟩
    have hWs : W.heap.size = w3.heap.size + 1 := by rw [hW]; simp
    have hEW : Ext w3 W := by rw [hW]; exact Ext.alloc _ _
    have HO : Hid ((W.alloc (.cells #[] 5)).ownsRow W.heap.size 5 1 (.slice (some ⟨W.heap.size, 0, none⟩) 0 0) 0 []) := own_lit W [] 5 (by simp)
    have HRB := Lib.hid (HB3.out.ext (hEW.trans (Ext.alloc W (.cells #[] 5))))
    have HEW := Lib.hid (HE3.out.trans (hEW.trans (Ext.alloc W (.cells #[] 5))))
    have hlw := HE3.out.size
    rw [hWs, hW] at HO
    rw [hW] at HRB HEW
    clear hW hWs hEW
    go_wp2_with (at_builtin; go_loud (refine wpList_append_rd rfl (.tmp 43) (.tmp 44) _ rfl el8 (w3.heap.size + 1) _ 0 [] (u8s (putB x)) rfl HO.out _ rfl HRB.out (u8s_one _) (by rw [u8s_len, ← HBN.out]; omega) (by rw [u8s_len, ← HBN.out]; unfold maxLen; omega) (by simp) ?_))
    intro v7 w7 ho7 hg7
    have hs7 := hg7.size
    simp at hs7
    have hE7 : Ext w w7 := Below.grown HEW.out hg7 (by simp; omega) (by intro k hk; simp [Value.ownBlock] at hk; omega)
    have HO7 := Lib.hid ho7
    have HE7 := Lib.hid hE7
    clear ho7 hg7 hE7
    go_wp2_with (at_builtin; go_loud (refine wpList_push rfl (.tmp 45) (.tmp 47) _ rfl el8 (w3.heap.size + 1) _ _ _ (.int .u8 more) rfl HO7.out 5 rfl rfl (by rw [u8s_len, ← HBN.out]; omega) (by rw [u8s_len, ← HBN.out]; unfold maxLen; omega) (by omega) ?_))
    intro v8 w8 ho8 hg8
    have hE8 : Ext w w8 := Below.grown HE7.out hg8 HE7.out.size fun k hk => by have := own_block HO7.out k hk; omega
    have hr8 : Rd w8 v8 (u8s (putB x ++ [more])) := by
      have := Rd.of_own (own_n ho8)
      simpa [u8s] using this
    have HR8 := Lib.hid hr8; have HE8 := Lib.hid hE8
    clear ho8 hg8 hr8 hE8
    go_wp2_with fail
    refine (get_c _ _ w8 HR8.out (hb8.append (by intro y hy; simp at hy; omega)) (by rw [List.length_append, ← HBN.out]; simp; omega)).mono ?_
    rintro en w9 ⟨hE9, v9, e9, x9, rfl, ⟨hv9, _⟩, hm9⟩
    rw [getB_tail x HF.out HOK.out.fit more] at hm9
    obtain ⟨rfl, rfl⟩ := hm9
    obtain ⟨da9, dn9, dc9, ma9, mn9, mc9, rfl⟩ := hv9.shape
    have HE9 := Lib.hid ((HE8.out.trans hE9).trans (Ext.alloc w9 (.cells #[.int .u64 0, .int .i64 0, .int .u64 0, .int .u64 0, .slice da9 dn9 dc9, .slice ma9 mn9 mc9] 26)))
    clear hv9 hE9
    go_wp2_with fail
    go_ret
    exact ⟨rfl, HE9.out⟩
end Go.Proofs.Ytiaiicgpiiabnaa
