/- tabellionref12.Ids. -/
import Derived.Test.YtiaiicgpiiabnaaRfw
import Derived.Test.YtiaiicgpiiabnaaCmdL
import Derived.Test.YtiaiicgpiiabnaaLays
namespace Go.Proofs.Ytiaiicgpiiabnaa
open Go Go.RowKit

/-- rising from l on, none above 7 -/
def chk (l : Int) : List Int → Bool
  | [] => true
  | x :: r => !(decide (x ≤ l) || decide (7 < x)) && chk x r
theorem chk_snoc : ∀ (xs : List Int) (l m : Int), chk l (xs ++ [m]) = (chk l xs && !(decide (m ≤ xs.getLastD l) || decide (7 < m)))
  | [], l, m => by simp [chk]
  | x :: r, l, m => by
    simp only [List.cons_append, chk]
    have e : (x :: r).getLastD l = r.getLastD x := by cases r <;> rfl
    rw [chk_snoc r x m, e, Bool.and_assoc]
theorem memGo_chk : ∀ (xs : List Int) (l : Int), memGo l xs = (chk l xs && decide (0 < xs.getLastD l))
  | [], l => by simp [memGo, chk]
  | x :: r, l => by
    simp only [memGo, chk]
    have e : (x :: r).getLastD l = r.getLastD x := by cases r <;> rfl
    rw [memGo_chk r x, e, Bool.and_assoc]
theorem members_snoc (acc : List Int) (m : Int) (h : chk 0 acc = true) (h0 : 0 ≤ acc.getLastD 0) : membersB (acc ++ [m]) = !(decide (m ≤ acc.getLastD 0) || decide (7 < m)) := by
  unfold membersB
  rw [memGo_chk, chk_snoc, h]
  have e : (acc ++ [m]).getLastD 0 = m := by simp [List.getLastD_eq_getLast?]
  rw [e]
  generalize acc.getLastD 0 = g at *
  rw [Bool.eq_iff_iff]
  simp
  omega

/-- A slice in memory that w had not. -/
def New64 (w : World) (xs : List Int) (v : Value) (w' : World) : Prop := Rd w' v (u64s xs) ∧ ∀ a n c, v = .slice (some a) n c → w.heap.size ≤ a.block
def idsB (bs : List Int) : Except Int (List Int × List Int) :=
  match rdNum bs with
  | .error e => .error e
  | .ok (n, r) => if n < 1 ∨ 7 < n then .error 3 else rdIds n.toNat [] r
/-- An outcome whose reader may stand anywhere where it failed. -/
def ROut' {α : Type} (b : Nat) (v : Value) (full : List Int) (V : α → Value → World → Prop) (Z : Value → World → Prop) (X : Except Int (α × List Int)) (w : World) (en : Ending) (w' : World) : Prop :=
  w.grownBy w' (some b) ∧ match X with
  | .error no => ∃ z, en = .returned (.tuple #[z, .int .i64 no]) ∧ Z z w'
  | .ok (x, r) => ∃ y a2, en = .returned (.tuple #[y, .int .i64 0]) ∧ V x y w' ∧ RR w' b v full a2 0 ∧ r = full.drop a2

theorem own_growR {w w' : World} {base : Nat} {e : TypeId} {size : Nat} {v : Value} {n : Nat} {xs : List Value} {b : Nat} (h : w.ownsRow base e size v n xs) (hg : w.grownBy w' (some b)) (hb : b < base) : w'.ownsRow base e size v n xs := by
  obtain ⟨h1, h2⟩ := h
  refine ⟨h1, ?_⟩
  rcases h2 with h2 | ⟨g, cap, cur, hv, hg', hh, r⟩
  · exact .inl h2
  · exact .inr ⟨g, cap, cur, hv, hg', (hg.block g (Array.getElem?_eq_some_iff.1 hh).1 (by intro e; cases e; omega)).trans hh, r⟩

theorem Rd.off_new {w : World} {v : Value} {cs : List Value} (h : Rd w v cs) {row : Option Nat} (hr : ∀ k, row = some k → w.heap.size ≤ k) : Off v cs row := by
  intro p n c hv hne e
  obtain ⟨a, c', hv', _, _, h3⟩ := h
  rcases h3 with h3 | ⟨b, o, rfl, hc⟩
  · exact hne h3
  · rw [hv] at hv'
    cases hv'
    cases cs with
    | nil => exact hne rfl
    | cons u us =>
      have := World.block_lt_of_cell? w _ (hc 0 u rfl)
      have := hr _ e.symm
      simp at *
      omega
theorem RR.grownR {w w' : World} {b : Nat} {v : Value} {full : List Int} {a : Nat} {e : Int} (h : RR w b v full a e) {row : Option Nat} (hg : w.grownBy w' row) (hb : some b ≠ row) (ho : Off v (u8s full) row) : RR w' b v full a e :=
  ⟨h.blk.grown hg hb, h.rd.grown hg ho, h.le, h.off⟩

set_option maxHeartbeats 2000000 in
theorem rids_c (b : Nat) (v : Value) (full : List Int) (a : Nat) (w : World) (hb8 : B8 full) (hl : full.length ≤ 140737488355328) (h : RR w b v full a 0) :
    Calls Try.prog 54 #[.pointer (some ⟨b, 0, none⟩)] w (ROut' b v full (New64 w) (fun z _ => z = .slice none 0 0) (idsB (full.drop a)) w) := by
  obtain ⟨X, hX⟩ : ∃ X, X = idsB (full.drop a) := ⟨_, rfl⟩
  rw [← hX]
  have H := Lib.hid h
  clear h
  go_enter Try.func54, Try.ntmps54
  go_wp2_with fail
  refine (rnum_c b v full a 0 w hb8 hl H.out).mono ?_
  rintro en w1 ⟨hg1, h1⟩
  simp only [stuckR, if_true] at h1
  cases hY : rdNum (full.drop a) with
  | error no =>
    rw [hY] at h1
    obtain ⟨rfl, h1⟩ := h1
    have hne : (no != 0) = true := by have := rdNum_err' hY; simpa using this
    have HX : Hid (X = .error no) := Lib.hid (by rw [hX]; simp [idsB, hY])
    clear h1 hX hY
    go_wp2
    go_ret2
    rw [HX.out]
    exact ⟨hg1, _, rfl, rfl⟩
  | ok y =>
    obtain ⟨x, r⟩ := y
    rw [hY] at h1
    obtain ⟨_, a1, rfl, rfl, h1, rfl⟩ := h1
    obtain ⟨hx0, hrl⟩ := rdNum_ok hY
    obtain ⟨N, rfl⟩ := Int.eq_ofNat_of_zero_le hx0
    simp only [idsB, hY] at hX
    have H1 := Lib.hid h1; have HG1 := Lib.hid hg1
    clear h1 hY hg1 hrl hx0
    by_cases hn : (N : Int) < 1 ∨ 7 < (N : Int)
    · rw [if_pos hn] at hX
      have HX := Lib.hid hX; clear hX
      by_cases hn1 : (N : Int) < 1
      · go_wp2
        go_ret2
        rw [HX.out]
        exact ⟨HG1.out, _, rfl, rfl⟩
      · have hn7 : 7 < (N : Int) := by omega
        clear hn
        go_wp2
        go_ret2
        rw [HX.out]
        exact ⟨HG1.out, _, rfl, rfl⟩
    · rw [if_neg hn, Int.toNat_natCast] at hX
      have HX := Lib.hid hX; clear hX
      have hn1 : ¬ (N : Int) < 1 := by omega
      have hn7 : ¬ 7 < (N : Int) := by omega
      have hN7 : N ≤ 7 := by omega
      have hc64 : IntKind.i64.wrap (N : Int) = (N : Int) := by rw [IntKind.wrap_i64]; omega
      have hbs : b < w1.heap.size := H1.out.blk.lt
      clear hn
      go_wp2_with fail
      go_loopg [6, 7, 8] N (fun g s l i wr => ∃ (j : Nat) (acc : List Int) (a2 : Nat), j + g = N ∧ i = .int .i64 (j : Int) ∧ l = .int .u64 (acc.getLastD 0) ∧ wr.ownsRow w1.heap.size 22 1 s acc.length (u64s acc) ∧ acc.length = j ∧ chk 0 acc = true ∧ 0 ≤ acc.getLastD 0 ∧ RR wr b v full a2 0 ∧ w.grownBy wr (some b) ∧ w1.heap.size ≤ wr.heap.size ∧ rdIds (N - j) acc (full.drop a2) = X)
      case atStart =>
        exact ⟨0, [], a1, by omega, rfl, rfl, World.ownsRow_nil _ _ _ _, rfl, rfl, by simp, H1.out, HG1.out, Nat.le_refl _, HX.out.symm⟩
      case round =>
        obtain ⟨j, acc, a2, hj, rfl, rfl, ho, hlen, hck, hg0, hr, hg, hs, hd⟩ := hrel
        by_cases hlt : j < N
        · have HR := Lib.hid hr; have HG := Lib.hid hg; have HO := Lib.hid ho; have HD := Lib.hid hd; have HCK := Lib.hid hck
          obtain ⟨M, hM⟩ : ∃ M, N - j = M + 1 := ⟨N - j - 1, by omega⟩
          clear ho hck hr hg hd
          go_wp2_with fail
          refine (rnum_c b v full a2 0 wr hb8 hl HR.out).mono ?_
          rintro en w2 ⟨hg2, h2⟩
          simp only [stuckR, if_true] at h2
          have HG2 := Lib.hid (grown_trans1 HG.out hg2)
          have hs2 : w1.heap.size ≤ w2.heap.size := Nat.le_trans hs hg2.size
          have HO2 := Lib.hid (own_growR HO.out hg2 hbs)
          cases hm : rdNum (full.drop a2) with
          | error no =>
            rw [hm] at h2
            obtain ⟨rfl, h2⟩ := h2
            have hne : (no != 0) = true := by have := rdNum_err' hm; simpa using this
            have HX2 : Hid (X = .error no) := Lib.hid (by rw [← HD.out, hM]; simp [rdIds, hm])
            clear h2 hm hg2
            go_wp2
            go_ret2
            rw [HX2.out]
            exact ⟨HG2.out, _, rfl, rfl⟩
          | ok y =>
            obtain ⟨m, r⟩ := y
            rw [hm] at h2
            obtain ⟨_, a3, rfl, rfl, h2, rfl⟩ := h2
            obtain ⟨hm0, _⟩ := rdNum_ok hm
            have hsn := members_snoc acc m HCK.out hg0
            have hst : X = if membersB (acc ++ [m]) then rdIds (N - (j + 1)) (acc ++ [m]) (full.drop a3) else .error 3 := by
              rw [← HD.out, hM, show N - (j + 1) = M by omega]; simp [rdIds, hm]
            rw [hsn] at hst
            have hcs := chk_snoc acc 0 m
            rw [HCK.out] at hcs
            have hgl : (acc ++ [m]).getLastD 0 = m := by simp [List.getLastD_eq_getLast?]
            have HST := Lib.hid hst; have HCS := Lib.hid hcs; have HGL := Lib.hid hgl
            have H2 := Lib.hid h2
            have hb1 : (acc.length + 1) * 8 ≤ 140737488355328 := by omega
            have hb2 : acc.length + 1 ≤ maxLen := by unfold maxLen; omega
            clear hsn hst hcs hgl h2 hm hg2
            obtain ⟨g, hgg⟩ : ∃ g, g = acc.getLastD 0 := ⟨_, rfl⟩
            rw [← hgg] at HST HCS hg0 ⊢
            have HGG := Lib.hid hgg; clear hgg
            by_cases h1 : m ≤ g
            · have HX2 : Hid (X = .error 3) := Lib.hid (by rw [HST.out]; simp [h1])
              go_wp2
              go_ret2
              rw [HX2.out]
              exact ⟨HG2.out, _, rfl, rfl⟩
            · by_cases h7 : 7 < m
              · have HX2 : Hid (X = .error 3) := Lib.hid (by rw [HST.out]; simp [h7])
                go_wp2
                go_ret2
                rw [HX2.out]
                exact ⟨HG2.out, _, rfl, rfl⟩
              · have HX2 : Hid (rdIds (N - (j + 1)) (acc ++ [m]) (full.drop a3) = X) := Lib.hid (by rw [HST.out]; simp [h1, h7])
                have HC2 : Hid (chk 0 (acc ++ [m]) = true) := Lib.hid (by rw [HCS.out]; simp [h1, h7])
                have hjw : IntKind.i64.wrap ((j : Int) + 1) = ((j + 1 : Nat) : Int) := by rw [IntKind.wrap_i64]; omega
                go_wp2_with (at_builtin; go_loud (refine wpList_push rfl (.tmp 47) (.tmp 49) _ rfl el64 w1.heap.size _ acc.length (u64s acc) (.int .u64 m) rfl HO2.out _ rfl rfl hb1 hb2 hs2 ?_))
                intro v9 w9 ho9 hg9
                have hrow : ∀ k, u6.ownBlock = some k → w1.heap.size ≤ k := fun k hk => (HO2.out.lt k hk).1
                have h9 : RR w9 b v full a3 0 := H2.out.grownR hg9 (by intro e; have := hrow _ e.symm; omega) (H1.out.rd.off_new hrow)
                have g9 : w.grownBy w9 (some b) := grown_trans HG2.out hg9 (.inr fun k hk => Nat.le_trans HG1.out.size (hrow k hk))
                have HR9 := Lib.hid h9; have HG9 := Lib.hid g9
                have hs9 : w1.heap.size ≤ w9.heap.size := Nat.le_trans hs2 hg9.size
                have HO9 : Hid (w9.ownsRow w1.heap.size 22 1 v9 (acc ++ [m]).length (u64s (acc ++ [m]))) := by
                  rw [u64s_append, List.length_append, hlen]; exact ho9
                clear ho9 hg9 hrow h9 g9
                go_wp2_with fail
                go_roundg M
                case rel => exact ⟨j + 1, acc ++ [m], a3, by omega, by simp, by rw [HGL.out], HO9.out, by simp [hlen], HC2.out, by rw [HGL.out]; exact hm0, HR9.out, HG9.out, hs9, HX2.out⟩
                case measure => omega
        · have hjN : j = N := by omega
          have HX2 : Hid (X = .ok (acc, full.drop a2)) := Lib.hid (by rw [← hd, hjN]; simp [rdIds])
          have HR := Lib.hid hr; have HG := Lib.hid hg
          have hnew : New64 w acc u6 wr := ⟨Rd.of_own ho, fun p n c hv => by
            rcases ho.2 with ⟨hn, _⟩ | ⟨g, cap, cur, hv', hg', _⟩
            · rw [hn] at hv; cases hv
            · rw [hv'] at hv; cases hv; exact Nat.le_trans HG1.out.size hg'⟩
          have HNW := Lib.hid hnew
          obtain ⟨p6, n6, c6, rfl⟩ := Rd.shape (Rd.of_own ho)
          clear hr hg ho hck hd hnew
          go_wp2
          go_ret2
          rw [HX2.out]
          exact ⟨HG.out, _, a2, rfl, HNW.out, HR.out, rfl⟩
end Go.Proofs.Ytiaiicgpiiabnaa
