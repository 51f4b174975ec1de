/- The law CmdReads: its walk. -/
import Derived.Test.YtiaiicgpiiabnaaGet
import Derived.Test.YtiaiicgpiiabnaaRget
import Derived.Test.YtiaiicgpiiabnaaSames
namespace Go.Proofs.Ytiaiicgpiiabnaa
open Go Go.RowKit

theorem EntOk.zero : EntOk ⟨0, 0, 0, 0, [], []⟩ := ⟨by unfold U64; simp, by simp, by unfold U64; simp, by unfold U64; simp, (by intro y hy; simp at hy), (by intro y hy; simp at hy)⟩
theorem getB_ok {bs : List Int} {x : Ent} (hb : B8 bs) (h : getB bs = .ok x) : EntOk x := by
  obtain ⟨hp, hf, hx⟩ := getB_inv bs x hb h
  obtain ⟨⟨t0, t1⟩, hc⟩ := formed_cases x hf
  obtain ⟨⟨c0, c1⟩, s0, s1⟩ := hx
  have hd : B8 x.data := by
    rcases hc with ⟨_, _, _, hd, _⟩ | ⟨hk, _, _⟩ | ⟨_, _, _, hd, _⟩
    · rw [hd]; intro y hy; cases hy
    · intro y hy
      refine hb y ?_
      rw [← hp]
      simp only [putB, hk, if_true]
      simp [hy]
    · rw [hd]; intro y hy; cases hy
  have hm : B64 x.members := by
    rcases hc with ⟨_, _, _, _, hm⟩ | ⟨_, _, hm⟩ | ⟨_, _, _, _, hm⟩
    · rw [hm]; intro y hy; cases hy
    · rw [hm]; intro y hy; cases hy
    · intro y hy
      have := memGo_mem x.members 0 (by omega) hm y hy
      exact ⟨by omega, by omega⟩
  have hk : -9223372036854775808 ≤ x.kind ∧ x.kind ≤ 9223372036854775807 := by
    rcases hc with ⟨hk, _⟩ | ⟨hk, _⟩ | ⟨hk, _⟩ <;> omega
  exact ⟨⟨by omega, by omega⟩, hk, ⟨by omega, by omega⟩, ⟨by omega, by omega⟩, hd, hm⟩

/-- An entry whose lists lie in new blocks stays while an elder block alone turns. -/
theorem EntV.elder {w W W' : World} {v : Value} {x : Ent} {g : Nat} (h : EntV W v x) (hn : EntNew w v) (hg : W.grownBy W' (some g)) (hlt : g < w.heap.size) : EntV W' v x := by
  obtain ⟨dv, mv, rfl, h1, h2⟩ := h
  obtain ⟨_, _, _, _, dv', mv', he, n1, n2⟩ := hn
  cases he
  exact ⟨_, _, rfl, h1.grown hg fun a n c hv _ e => by have := n1 a n c hv; cases e; omega, h2.grown hg fun a n c hv _ e => by have := n2 a n c hv; cases e; omega⟩

theorem EntV.shape {w : World} {v : Value} {x : Ent} (h : EntV w v x) : ∃ a n c a' n' c', v = .agg #[.int .u64 x.term, .int .i64 x.kind, .int .u64 x.client, .int .u64 x.seq, .slice a n c, .slice a' n' c'] := by
  obtain ⟨dv, mv, rfl, h1, h2⟩ := h
  obtain ⟨a, n, c, rfl⟩ := Rd.shape h1
  obtain ⟨a', n', c', rfl⟩ := Rd.shape h2
  exact ⟨_, _, _, _, _, _, rfl⟩
/-- What the law's loop keeps: n bytes of the call's own, whatever they are. -/
def OwnAny (W W' : World) (g n : Nat) (e : TypeId) : Prop :=
  W.grownBy W' (some g) ∧ (n = 0 ∨ ∃ cur : Array Value, Blk W' g cur e ∧ n ≤ cur.size ∧ ∀ j, j < n → ∃ z, cur[j]? = some (.int .u8 z))
theorem OwnAny.get {W W' : World} {g n k : Nat} {e : TypeId} (h : OwnAny W W' g n e) (hk : k < n) : ∃ z, W'.cell? ⟨g, k, none⟩ = some (.int .u8 z) ∧ W'.frozen? ⟨g, k, none⟩ = false := by
  obtain ⟨_, h | ⟨cur, hb, hs, hc⟩⟩ := h
  · omega
  · obtain ⟨z, hz⟩ := hc k hk
    exact ⟨z, hb.cell k hz, hb.free k⟩
theorem OwnAny.store {W W' : World} {g n : Nat} {e : TypeId} (h : OwnAny W W' g n e) (k : Nat) (z : Int) (hk : k < n) : OwnAny W (W'.setCell ⟨g, k, none⟩ (.int .u8 z)) g n e := by
  obtain ⟨hg, h | ⟨cur, hb, hs, hc⟩⟩ := h
  · omega
  · refine ⟨grown_trans1 hg (grown_set _ _ _ _), .inr ⟨_, hb.set k _, by simpa using hs, fun j hj => ?_⟩⟩
    by_cases hjk : j = k
    · subst hjk; exact ⟨z, by rw [Array.getElem?_setIfInBounds_self_of_lt (by omega)]⟩
    · obtain ⟨y, hy⟩ := hc j hj
      exact ⟨y, by rw [Array.getElem?_setIfInBounds_ne (Ne.symm hjk)]; exact hy⟩
theorem OwnAny.of_own {w : World} {base : Nat} {e : TypeId} {a : Option Addr} {n c : Nat} {bs : List Int} (h : w.ownsRow base e 1 (.slice a n c) (u8s bs).length (u8s bs)) (hb : base < w.heap.size) :
    ∃ g, base ≤ g ∧ g < w.heap.size ∧ n = bs.length ∧ n ≤ c ∧ c ≤ maxLen ∧ (n ≠ 0 → a = some ⟨g, 0, none⟩) ∧ OwnAny w w g n e := by
  rcases h.2 with ⟨hv, hx⟩ | ⟨g, cap, cur, hv, hge, hg, h1, h2, h3, h4⟩
  · cases hv
    have hl := h.1
    rw [hx] at hl
    have hl0 : bs = [] := by simpa [u8s] using hx
    exact ⟨base, Nat.le_refl _, hb, by rw [hl0]; rfl, Nat.le_refl _, Nat.zero_le _, (fun h0 => absurd rfl h0), grown_refl _ _, .inl rfl⟩
  · cases hv
    refine ⟨g, hge, (Array.getElem?_eq_some_iff.1 hg).1, u8s_len bs, h1, h2, (fun _ => rfl), grown_refl _ _, .inr ⟨cur, hg, ?_, fun j hj => ?_⟩⟩
    · simp at h3; rw [u8s_len] at *; omega
    · refine ⟨bs.getD j 0, ?_⟩
      rw [u8s_len] at hj
      have h5 : (u8s bs)[j]? = some (.int .u8 (bs.getD j 0)) := by simp [u8s, List.getD, List.getElem?_eq_getElem hj]
      rw [← h4, List.getElem?_take] at h5
      split at h5
      · simpa using h5
      · cases h5

set_option maxHeartbeats 2000000 in
theorem reads_law (v : Value) (bs : List Int) (w : World) (hR : Rd w v (u8s bs)) (hb8 : B8 bs) (hl : bs.length ≤ 140737488355000) :
    Calls Try.prog 5 #[v] w (RetIs (.bool true) w) := by
  obtain ⟨av, nv, cv, rfl⟩ := Rd.shape hR
  have HR := Lib.hid hR; clear hR
  go_enter Try.func5, Try.ntmps5
  go_wp2_with fail
  refine (awake12 _).mono ?_
  rintro e w1 ⟨rfl, hE1⟩
  have HE1 := Lib.hid hE1
  have HO1 : Hid ((w1.alloc (.cells #[] 5)).ownsRow w1.heap.size 5 1 (.slice (some ⟨w1.heap.size, 0, none⟩) 0 0) 0 []) := own_lit w1 [] 5 (by simp)
  clear hE1
  go_wp2_with (at_builtin; go_loud (refine wpList_append_rd rfl (.tmp 11) (.tmp 12) _ rfl el8 w1.heap.size _ 0 [] (u8s bs) rfl HO1.out _ rfl (HR.out.ext (HE1.out.trans (Ext.alloc _ _))) (u8s_one _) (by rw [u8s_len]; omega) (by rw [u8s_len]; unfold maxLen; omega) (by simp) ?_))
  intro v3 w3 ho3 hg3
  have hs3 : w1.heap.size < w3.heap.size := by have := hg3.size; simp at this; omega
  have hE3 : Ext w w3 := HE1.out.trans (Below.grown (Ext.alloc w1 (.cells #[] 5)) hg3 (by simp) (by intro k hk; simp [Value.ownBlock] at hk; omega))
  have hR3 := Rd.of_own ho3
  obtain ⟨a3, n3, c3, rfl⟩ := Rd.shape hR3
  obtain ⟨g, hg1, hg2, hn3, hnc, hcm, ha3, hown⟩ := OwnAny.of_own (by simpa using ho3) hs3 (bs := bs)
  have HR3 := Lib.hid hR3; have HE3 := Lib.hid hE3; have HN3 := Lib.hid hn3; have HA3 := Lib.hid ha3; have HOWN := Lib.hid hown
  have hn3' : n3 ≤ 140737488355000 := by omega
  clear ho3 hg3 hR3 hE3 hn3 ha3 hown
  go_wp2_with fail
  refine (get_c _ bs w3 HR3.out hb8 (by omega)).mono ?_
  rintro en w4 ⟨hE4, v4, e4, x4, rfl, ⟨hv4, hn4⟩, hm4⟩
  obtain ⟨X, hX⟩ : ∃ X, X = getB bs := ⟨_, rfl⟩
  rw [← hX] at hm4
  have hok4 : EntOk x4 := by
    cases X with
    | error no => obtain ⟨_, rfl⟩ := hm4; exact EntOk.zero
    | ok y => obtain ⟨_, rfl⟩ := hm4; exact getB_ok hb8 hX.symm
  have HV4 := Lib.hid hv4; have HN4 := Lib.hid hn4; have HM4 := Lib.hid hm4; have HX := Lib.hid hX; have HE4 := Lib.hid hE4
  have HOK4 := Lib.hid hok4
  obtain ⟨da, dn, dc, ma, mn, mc, rfl⟩ := hv4.shape
  clear hv4 hn4 hm4 hX hE4 hok4
  have hw5 : Ext w3 (w4.alloc (.cells #[.int .u64 x4.term, .int .i64 x4.kind, .int .u64 x4.client, .int .u64 x4.seq, .slice da dn dc, .slice ma mn mc] 26)) := HE4.out.trans (Ext.alloc _ _)
  have hb5 : Blk (w4.alloc (.cells #[.int .u64 x4.term, .int .i64 x4.kind, .int .u64 x4.client, .int .u64 x4.seq, .slice da dn dc, .slice ma mn mc] 26)) w4.heap.size #[.int .u64 x4.term, .int .i64 x4.kind, .int .u64 x4.client, .int .u64 x4.seq, .slice da dn dc, .slice ma mn mc] 26 := Blk.new _ _ _
  have hv5 := HV4.out.ext (Ext.alloc w4 (.cells #[.int .u64 x4.term, .int .i64 x4.kind, .int .u64 x4.client, .int .u64 x4.seq, .slice da dn dc, .slice ma mn mc] 26))
  have HW5 := Lib.hid hw5; have HB5 := Lib.hid hb5; have HV5 := Lib.hid hv5
  clear hw5 hb5 hv5
  go_wp2_with fail
  go_loopg [6] n3 (fun gh i wr => ∃ k : Nat, k + gh = n3 ∧ i = .int .i64 (k : Int) ∧ OwnAny (w4.alloc (.cells #[.int .u64 x4.term, .int .i64 x4.kind, .int .u64 x4.client, .int .u64 x4.seq, .slice da dn dc, .slice ma mn mc] 26)) wr g n3 5)
  case atStart =>
    refine ⟨0, by omega, rfl, grown_refl _ _, ?_⟩
    rcases HOWN.out.2 with h | ⟨cur, hb, hs, hc⟩
    · exact .inl h
    · exact .inr ⟨cur, hb.ext HW5.out, hs, hc⟩
  case round =>
    obtain ⟨k, hk, rfl, hown⟩ := hrel
    by_cases hlt : k < n3
    · obtain rfl := HA3.out (by omega)
      obtain ⟨z, hz, hf⟩ := hown.get hlt
      have HS := Lib.hid (fun z => hown.store k z hlt)
      clear hown
      obtain ⟨M, rfl⟩ : ∃ M, gk = M + 1 := ⟨gk - 1, by omega⟩
      go_wp2_with fail
      go_roundg M
      case rel => exact ⟨k + 1, by omega, rfl, HS.out _⟩
      case measure => omega
    · have HOW := Lib.hid hown.1
      have hER : Ext w wr := Below.grown (HE3.out.trans HW5.out) hown.1 (HE3.out.trans HW5.out).size fun k hk => by have := HE1.out.size; have := Option.some.inj hk; omega
      have hs34 := HE4.out.size
      have hbr := HB5.out.grown hown.1 (by intro e; have := Option.some.inj e; omega)
      have hvr := HV5.out.elder HN4.out hown.1 (by omega)
      have HER := Lib.hid hER; have HBR := Lib.hid hbr; have HVR := Lib.hid hvr
      clear hown hER hbr hvr
      go_wp2_with fail
      refine (rget_c _ bs wr (HR.out.ext HER.out) hb8 hl).mono ?_
      rintro en w6 ⟨hE6, v6, e6, x6, rfl, hv6, hm6⟩
      have hm4 := HM4.out
      rw [← HX.out] at hm6
      have hee : e6 = e4 ∧ x6 = x4 := by
        cases X with
        | error no => exact ⟨hm6.1.trans hm4.1.symm, hm6.2.trans hm4.2.symm⟩
        | ok y => exact ⟨hm6.1.trans hm4.1.symm, hm6.2.trans hm4.2.symm⟩
      obtain ⟨rfl, rfl⟩ := hee
      clear hm4 hm6
      obtain ⟨da', dn', dc', ma', mn', mc', rfl⟩ := hv6.shape
      have hb7 := (HBR.out.ext hE6).alloc (.cells #[.int .u64 x6.term, .int .i64 x6.kind, .int .u64 x6.client, .int .u64 x6.seq, .slice da' dn' dc', .slice ma' mn' mc'] 26)
      have hb8' : Blk (w6.alloc (.cells #[.int .u64 x6.term, .int .i64 x6.kind, .int .u64 x6.client, .int .u64 x6.seq, .slice da' dn' dc', .slice ma' mn' mc'] 26)) w6.heap.size #[.int .u64 x6.term, .int .i64 x6.kind, .int .u64 x6.client, .int .u64 x6.seq, .slice da' dn' dc', .slice ma' mn' mc'] 26 := Blk.new _ _ _
      have hv7 := (HVR.out.ext hE6).ext (Ext.alloc w6 (.cells #[.int .u64 x6.term, .int .i64 x6.kind, .int .u64 x6.client, .int .u64 x6.seq, .slice da' dn' dc', .slice ma' mn' mc'] 26))
      have hv8 := hv6.ext (Ext.alloc w6 (.cells #[.int .u64 x6.term, .int .i64 x6.kind, .int .u64 x6.client, .int .u64 x6.seq, .slice da' dn' dc', .slice ma' mn' mc'] 26))
      have hE8 := (HER.out.trans hE6).trans (Ext.alloc w6 (.cells #[.int .u64 x6.term, .int .i64 x6.kind, .int .u64 x6.client, .int .u64 x6.seq, .slice da' dn' dc', .slice ma' mn' mc'] 26))
      have HB7 := Lib.hid hb7; have HB8 := Lib.hid hb8'; have HV7 := Lib.hid hv7; have HV8 := Lib.hid hv8; have HE8 := Lib.hid hE8
      clear hb7 hb8' hv7 hv8 hE8 hv6 hE6
      obtain ⟨p0, p1, p2, p3, p4, p5⟩ := HB7.out.six
      obtain ⟨q0, q1, q2, q3, q4, q5⟩ := HB8.out.six
      go_wp2_with fail
      refine (rsame_ret _ _ x6 x6 _ HV7.out HV8.out HOK4.out HOK4.out).mono ?_
      rintro en w9 ⟨rfl, hE9⟩
      rw [sameB_self]
      go_wp2_with fail
      go_ret
      exact ⟨rfl, HE8.out.trans hE9⟩
end Go.Proofs.Ytiaiicgpiiabnaa
