/- Tally: the laws' own functions: few, awake. -/
import Derived.Test.YtgnkhpcnlffjnaaTlyA
import Derived.Test.YtgnkhpcnlffjnaaTlyT
namespace Go.Proofs.Ytgnkhpcnlffjnaa
open Go Go.RowKit

/-- The ending of a call that hands back v. -/
def RetW (v : Value) (w : World) (e : Ending) (w' : World) : Prop := e = .returned v ∧ Ext w w'

theorem few_c (v1 v2 : Value) (ms : List Int) (ps : List PeerC) (w : World) (h1 : Rd w v1 (u64s ms)) (h2 : PeersV w v2 ps) :
    Calls Try.prog 9 #[v1, v2] w fun e w' => e = .returned (.bool (decide (ms.length ≤ 100 ∧ ps.length ≤ 100))) ∧ w = w' := by
  obtain ⟨a1, c1, rfl, hl1, hm1, _⟩ := Rd.open h1
  obtain ⟨a2, c2, rfl, hl2, hm2⟩ := h2.shape
  unfold maxLen at hm1 hm2
  obtain ⟨R, hR⟩ : ∃ R, R = decide (ms.length ≤ 100 ∧ ps.length ≤ 100) := ⟨_, rfl⟩
  rw [← hR]
  have HR := Lib.hid hR
  clear hR
  by_cases h : ms.length ≤ 100
  · go_enter Try.func9, Try.ntmps9
    go_wp2
    go_ret
    refine ⟨ret_eq (congrArg Value.bool ?_), rfl⟩
    show decide ((ps.length : Int) ≤ 100) = R
    rw [HR.out]
    by_cases h' : ps.length ≤ 100
    · rw [decide_eq_true (by omega), decide_eq_true ⟨h, h'⟩]
    · rw [decide_eq_false (by omega), decide_eq_false (fun x => h' x.2)]
  · go_enter Try.func9, Try.ntmps9
    go_wp2
    go_ret
    exact ⟨ret_eq (congrArg Value.bool (by rw [HR.out, decide_eq_false (fun x => h x.1)])), rfl⟩

theorem flat_get : ∀ (ps : List PeerC) (j : Nat) (p : PeerC) (i : Nat) (u : Value), ps[j]? = some p → (pcell p)[i]? = some u → (ps.flatMap fun p => (pcell p).toList)[j * 8 + i]? = some u
  | [], j, p, i, u, h, _ => by simp at h
  | q :: r, j, p, i, u, h, hu => by
    have hl : (pcell q).toList.length = 8 := rfl
    cases j with
    | zero =>
      simp only [List.getElem?_cons_zero, Option.some.injEq] at h
      subst h
      have hi : i < 8 := by have := (Array.getElem?_eq_some_iff.1 hu).1; simpa [pcell] using this
      rw [List.flatMap_cons, List.getElem?_append_left (by omega), Nat.zero_mul, Nat.zero_add]
      rw [Array.getElem?_toList]; exact hu
    | succ j =>
      simp only [List.getElem?_cons_succ] at h
      rw [List.flatMap_cons, List.getElem?_append_right (by omega), hl, show (j + 1) * 8 + i - 8 = j * 8 + i by omega]
      exact flat_get r j p i u h hu
theorem peers_blk {w : World} {b : Nat} {e : TypeId} (ps : List PeerC) (c : Nat) (hB : Blk w b (ps.flatMap fun p => (pcell p).toList).toArray e) (h1 : ps.length ≤ c) (h2 : c ≤ maxLen) : PeersV w (.slice (some ⟨b, 0, none⟩) ps.length c) ps :=
  ⟨_, c, rfl, h1, h2, .inr ⟨b, 0, rfl, fun j p hp i u hu => by rw [Nat.zero_add]; exact hB.cell _ (by simpa using flat_get ps j p i u hp hu)⟩⟩
theorem log_blk {w : World} {b : Nat} {e : TypeId} (base bt t : Int) (c1 c2 c3 c4 c5 : Value) (hB : Blk w b #[.int .u64 t, c1, c2, c3, c4, c5] e) : LogV w (.agg #[.int .u64 base, .int .u64 bt, .slice (some ⟨b, 0, none⟩) 1 1]) base bt [t] :=
  ⟨_, 1, rfl, Nat.le_refl _, by unfold maxLen; omega, .inr ⟨b, 0, rfl, fun j u hj => by
    cases j with
    | zero => simp at hj; subst hj; exact hB.cell 0 rfl
    | succ j => simp at hj⟩⟩

def awPeers : List PeerC := [⟨1, 0, 5, .int .u64 0, .float .f64 0, .float .f64 0, .float .f64 0, .float .f64 0⟩, ⟨2, 0, 3, .int .u64 0, .float .f64 0, .float .f64 0, .float .f64 0, .float .f64 0⟩, ⟨3, 0, 4, .int .u64 0, .float .f64 0, .float .f64 0, .float .f64 0, .float .f64 0⟩]
theorem aw_agr : Agr [1, 2, 3] awPeers 4 := by
  refine ⟨by omega, (fun h => by cases h), fun _ => ?_, fun _ x hx => ?_⟩
  · simp [majB, haveB, matchB, awPeers]
  · have h1 : ¬ x ≤ 3 := by omega
    have h2 : ¬ x ≤ 4 := by omega
    by_cases h3 : x ≤ 5 <;> simp [majB, haveB, matchB, awPeers, h1, h2, h3]

set_option maxHeartbeats 1000000 in
theorem awake23 (w : World) : Calls Try.prog 8 #[] w (RetW (.bool true) w) := by
  go_enter Try.func8, Try.ntmps8
  go_wp2_with fail
  have hE : Ext w ((w.alloc (.cells #[.int .u64 1, .int .u64 2, .int .u64 3] 26)).alloc (.cells (awPeers.flatMap fun p => (pcell p).toList).toArray 40)) := (Ext.alloc _ _).trans (Ext.alloc _ _)
  have hB1 := Blk.new (w.alloc (.cells #[.int .u64 1, .int .u64 2, .int .u64 3] 26)) (awPeers.flatMap fun p => (pcell p).toList).toArray 40
  have hB2 := peers_blk awPeers 3 hB1 (Nat.le_refl _) (by unfold maxLen; omega)
  have hR := (Rd.of_own (own_lit w [.int .u64 1, .int .u64 2, .int .u64 3] 26 (by unfold maxLen; simp))).ext (Ext.alloc _ (.cells (awPeers.flatMap fun p => (pcell p).toList).toArray 40))
  have hsz : (w.alloc (.cells #[.int .u64 1, .int .u64 2, .int .u64 3] 26)).heap.size = w.heap.size + 1 := by simp
  rw [hsz] at hB2
  have HE := Lib.hid hE
  refine (agreed_c _ _ [1, 2, 3] awPeers _ hR hB2 (by simp) (by intro p hp; simp [awPeers] at hp; rcases hp with rfl | rfl | rfl <;> simp)).mono ?_
  rintro e w2 ⟨r, rfl, hr, hE2⟩
  obtain rfl := hr.unique aw_agr
  have HE2 := Lib.hid (HE.out.trans hE2)
  clear hE hB1 hB2 hR hsz hr hE2
  go_wp2_with fail
  have hB3 := Blk.new w2 #[.int .u64 2, .int .i64 0, .int .u64 0, .int .u64 0, .slice none 0 0, .slice none 0 0] 45
  refine (adv_c _ 0 0 [2] 2 0 1 _ (log_blk 0 0 2 _ _ _ _ _ hB3) ⟨by omega, by omega⟩ ⟨by omega, by omega⟩ (by simp)).mono ?_
  rintro e w3 ⟨rfl, hE3⟩
  have e1 : advB 0 0 [2] 2 0 1 = 1 := by decide
  rw [e1]
  have HE3 := Lib.hid ((HE2.out.trans (Ext.alloc _ _)).trans hE3)
  clear e1 hE3 hB3
  go_wp2_with fail
  go_ret
  exact ⟨rfl, HE3.out⟩
end Go.Proofs.Ytgnkhpcnlffjnaa
