/- Tally: peers in memory; the reference's match, Have, Majority. -/
import Derived.Test.YtgnkhpcnlffjnaaTlyL
import Derived.Test.YtgnkhpcnlffjnaaDraw
import Derived.Test.YtgnkhpcnlffjnaaProg
import Derived.Deep.QuietTactic
import Derived.BigQuiet
namespace Go.Proofs.Ytgnkhpcnlffjnaa
open Go Go.RowKit

def pcell (p : PeerC) : Array Value := #[.int .u64 p.id, .int .u64 p.next, .int .u64 p.mtch, p.cnt, p.f0, p.f1, p.f2, p.f3]
/-- v is a slice of the peers ps. -/
def PeersV (w : World) (v : Value) (ps : List PeerC) : Prop :=
  ∃ a c, v = .slice a ps.length c ∧ ps.length ≤ c ∧ c ≤ maxLen ∧ (ps = [] ∨ ∃ b o, a = some ⟨b, o, none⟩ ∧ ∀ j p, ps[j]? = some p → ∀ i u, (pcell p)[i]? = some u → w.cell? ⟨b, o + j * 8 + i, none⟩ = some u)
theorem PeersV.ext {w w' : World} {v : Value} {ps : List PeerC} (h : PeersV w v ps) (hE : Ext w w') : PeersV w' v ps := by
  obtain ⟨a, c, hv, h1, h2, h3⟩ := h
  refine ⟨a, c, hv, h1, h2, h3.imp id ?_⟩
  rintro ⟨b, o, ha, hc⟩
  exact ⟨b, o, ha, fun j p hp i u hu => hE.cell (hc j p hp i u hu)⟩
theorem PeersV.shape {w : World} {v : Value} {ps : List PeerC} (h : PeersV w v ps) : ∃ a c, v = .slice a ps.length c ∧ ps.length ≤ c ∧ c ≤ maxLen := by
  obtain ⟨a, c, hv, h1, h2, _⟩ := h; exact ⟨a, c, hv, h1, h2⟩
/-- The j-th peer's cells. -/
theorem PeersV.at {w : World} {a : Option Addr} {n c : Nat} {ps : List PeerC} (h : PeersV w (.slice a n c) ps) {j : Nat} {p : PeerC} (hp : ps[j]? = some p) :
    ∃ b o, a = some ⟨b, o, none⟩ ∧ w.cell? ⟨b, o + j * 8, none⟩ = some (.int .u64 p.id) ∧ w.cell? ⟨b, o + j * 8 + 1, none⟩ = some (.int .u64 p.next) ∧ w.cell? ⟨b, o + j * 8 + 2, none⟩ = some (.int .u64 p.mtch) ∧ w.cell? ⟨b, o + j * 8 + 3, none⟩ = some (p.cnt) ∧
      w.cell? ⟨b, o + j * 8 + 4, none⟩ = some p.f0 ∧ w.cell? ⟨b, o + j * 8 + 5, none⟩ = some p.f1 ∧ w.cell? ⟨b, o + j * 8 + 6, none⟩ = some p.f2 ∧ w.cell? ⟨b, o + j * 8 + 7, none⟩ = some p.f3 := by
  obtain ⟨a', c', hv, _, _, h3⟩ := h
  cases hv
  rcases h3 with h3 | ⟨b, o, ha, hc⟩
  · subst h3; simp at hp
  · exact ⟨b, o, ha, hc j p hp 0 _ rfl, hc j p hp 1 _ rfl, hc j p hp 2 _ rfl, hc j p hp 3 _ rfl, hc j p hp 4 _ rfl, hc j p hp 5 _ rfl, hc j p hp 6 _ rfl, hc j p hp 7 _ rfl⟩

theorem maj_c (v : Value) (ms : List Int) (w : World) (h : Rd w v (u64s ms)) : Calls Try.prog 14 #[v] w fun e w' => e = .returned (.int .i64 (majB ms : Int)) ∧ w = w' := by
  obtain ⟨a, c, rfl, h1, h2, _⟩ := Rd.open h
  unfold maxLen at h2
  have hm : ((majB ms : Nat) : Int) = (ms.length : Int) / 2 + 1 := by unfold majB; omega
  have HM := Lib.hid hm
  clear hm h
  go_enter Try.func14, Try.ntmps14
  go_wp2
  go_ret
  exact ⟨ret_eq (congrArg (Value.int .i64) HM.out.symm), rfl⟩
theorem rmaj_c (v : Value) (ms : List Int) (w : World) (h : Rd w v (u64s ms)) : Calls Try.prog 19 #[v] w fun e w' => e = .returned (.int .i64 (majB ms : Int)) ∧ w = w' := by
  obtain ⟨a, c, rfl, h1, h2, _⟩ := Rd.open h
  unfold maxLen at h2
  have hm : ((majB ms : Nat) : Int) = (ms.length : Int) / 2 + 1 := by unfold majB; omega
  have HM := Lib.hid hm
  clear hm h
  go_enter Try.func19, Try.ntmps19
  go_wp2
  go_ret
  exact ⟨ret_eq (congrArg (Value.int .i64) HM.out.symm), rfl⟩

theorem drop_cons {α : Type} {l : List α} {k : Nat} (h : k < l.length) : ∃ p, l[k]? = some p ∧ l.drop k = p :: l.drop (k + 1) :=
  ⟨l[k], List.getElem?_eq_getElem h, by rw [← List.getElem_cons_drop h]⟩

set_option maxHeartbeats 1000000 in
theorem rmatch_c (v : Value) (ps : List PeerC) (x : Int) (w : World) (h : PeersV w v ps) : Calls Try.prog 22 #[v, .int .u64 x] w fun e w' => e = .returned (.int .u64 (matchB ps x)) ∧ w = w' := by
  obtain ⟨a, c, rfl, h1, h2⟩ := h.shape
  unfold maxLen at h2
  obtain ⟨M, hM⟩ : ∃ M, M = matchB ps x := ⟨_, rfl⟩
  rw [← hM]
  have H := Lib.hid h; have HM := Lib.hid hM
  clear h hM
  go_enter Try.func22, Try.ntmps22
  go_wp2
  go_loopg [5] ps.length (fun gh i wr => ∃ k : Nat, i = .int .i64 (k : Int) ∧ k + gh = ps.length ∧ w = wr ∧ matchB (ps.drop k) x = M)
  case atStart => exact ⟨0, rfl, by omega, rfl, HM.out.symm⟩
  case round =>
    obtain ⟨k, rfl, hk, rfl, hd⟩ := hrel
    have HD := Lib.hid hd
    clear hd
    by_cases hlt : k < ps.length
    · obtain ⟨p, hp, hdp⟩ := drop_cons hlt
      obtain ⟨b, o, rfl, c0, _, c2, _⟩ := H.out.at hp
      have HN : Hid ((if p.id = x then p.mtch else matchB (ps.drop (k + 1)) x) = M) := Lib.hid (by rw [← HD.out, hdp]; rfl)
      clear hp hdp
      by_cases hx : p.id = x
      · have hxb : (p.id == x) = true := by rw [beq_iff_eq]; exact hx
        have HR : Hid (p.mtch = M) := Lib.hid (by rw [← HN.out, if_pos hx])
        clear hx
        go_wp2
        go_ret
        exact ⟨ret_eq (congrArg (Value.int .u64) HR.out), rfl⟩
      · have hxb : (p.id == x) = false := by rw [beq_eq_false_iff_ne]; exact hx
        have HR : Hid (matchB (ps.drop (k + 1)) x = M) := Lib.hid (by rw [← HN.out, if_neg hx])
        clear hx
        go_wp2
        go_roundg (ps.length - (k + 1))
        case rel => exact ⟨k + 1, rfl, by omega, rfl, HR.out⟩
        case measure => omega
    · have HR : Hid (0 = M) := Lib.hid (by rw [← HD.out, List.drop_eq_nil_of_le (by omega)]; rfl)
      go_wp2
      go_ret
      exact ⟨ret_eq (congrArg (Value.int .u64) HR.out), rfl⟩

set_option maxHeartbeats 1000000 in
theorem rhave_c (v1 v2 : Value) (ms : List Int) (ps : List PeerC) (x : Int) (w : World) (h1 : Rd w v1 (u64s ms)) (h2 : PeersV w v2 ps) : Calls Try.prog 15 #[v1, v2, .int .u64 x] w fun e w' => e = .returned (.int .i64 (haveB ms ps x : Int)) ∧ w = w' := by
  obtain ⟨a1, c1, rfl, hl1, hm1, hc1⟩ := Rd.open h1
  obtain ⟨a2, c2, rfl, hl2, hm2⟩ := h2.shape
  unfold maxLen at hm1 hm2
  obtain ⟨M, hM⟩ : ∃ M, M = haveB ms ps x := ⟨_, rfl⟩
  rw [← hM]
  have H2 := Lib.hid h2; have HM := Lib.hid hM; have HC := Lib.hid hc1
  clear h1 h2 hM hc1
  go_enter Try.func15, Try.ntmps15
  go_wp2
  go_loopg [7, 8] ms.length (fun gh n i wr => ∃ (k m : Nat), i = .int .i64 (k : Int) ∧ n = .int .i64 (m : Int) ∧ k + gh = ms.length ∧ m ≤ k ∧ w = wr ∧ m + haveB (ms.drop k) ps x = M)
  case atStart => exact ⟨0, 0, rfl, rfl, by omega, Nat.le_refl _, rfl, by rw [HM.out]; simp⟩
  case round =>
    obtain ⟨k, m, rfl, rfl, hk, hmk, rfl, hd⟩ := hrel
    have HD := Lib.hid hd
    clear hd
    by_cases hlt : k < ms.length
    · obtain ⟨y, hy, hdp⟩ := drop_cons hlt
      have hne : ms ≠ [] := by intro e; rw [e] at hlt; simp at hlt
      obtain ⟨b, o, rfl, hc⟩ := HC.out.resolve_left hne
      have cy := hc k hlt
      rw [show ms.getD k 0 = y by simp [List.getD, hy]] at cy
      have HN : Hid (m + (if x ≤ matchB ps y then 1 else 0) + haveB (ms.drop (k + 1)) ps x = M) := Lib.hid (by
        rw [← HD.out, hdp]; simp only [haveB, List.filter_cons, decide_eq_true_eq]; split <;> simp <;> omega)
      obtain ⟨t, ht⟩ : ∃ t, t = matchB ps y := ⟨_, rfl⟩
      have HT := Lib.hid ht
      clear hy hdp hne hc ht
      go_wp2_with fail
      refine (rmatch_c _ ps y _ H2.out).mono ?_
      rintro e w1 ⟨rfl, rfl⟩
      rw [← HT.out]
      by_cases hx : x ≤ t
      · have HR : Hid (m + 1 + haveB (ms.drop (k + 1)) ps x = M) := Lib.hid (by rw [← HN.out, ← HT.out, if_pos hx])
        go_wp2_with fail
        go_roundg (ms.length - (k + 1))
        case rel => exact ⟨k + 1, m + 1, rfl, rfl, by omega, by omega, rfl, HR.out⟩
        case measure => omega
      · have HR : Hid (m + haveB (ms.drop (k + 1)) ps x = M) := Lib.hid (by rw [← HN.out, ← HT.out, if_neg hx]; omega)
        go_wp2_with fail
        go_roundg (ms.length - (k + 1))
        case rel => exact ⟨k + 1, m, rfl, rfl, by omega, by omega, rfl, HR.out⟩
        case measure => omega
    · have HR : Hid (m = M) := Lib.hid (by rw [← HD.out, List.drop_eq_nil_of_le (by omega)]; simp [haveB])
      go_wp2
      go_ret
      exact ⟨ret_eq (congrArg (fun t : Nat => Value.int .i64 (t : Int)) HR.out), rfl⟩

theorem drop_best (ms : List Int) (ps : List PeerC) (p : PeerC) (r : List PeerC) (best : Int) : bestB ms ps (p :: r) best = bestB ms ps r (if best < p.mtch ∧ majB ms ≤ haveB ms ps p.mtch then p.mtch else best) := rfl
set_option maxHeartbeats 2000000 in
theorem ragreed_c (v1 v2 : Value) (ms : List Int) (ps : List PeerC) (w : World) (h1 : Rd w v1 (u64s ms)) (h2 : PeersV w v2 ps) :
    Calls Try.prog 11 #[v1, v2] w fun e w' => e = .returned (.int .u64 (bestB ms ps ps 0)) ∧ w = w' := by
  obtain ⟨a1, n1, c1, rfl⟩ := Rd.shape h1
  obtain ⟨a2, c2, rfl, hl2, hm2⟩ := h2.shape
  unfold maxLen at hm2
  obtain ⟨M, hM⟩ : ∃ M, M = bestB ms ps ps 0 := ⟨_, rfl⟩
  rw [← hM]
  have H1 := Lib.hid h1; have H2 := Lib.hid h2; have HM := Lib.hid hM
  clear h1 h2 hM
  go_enter Try.func11, Try.ntmps11
  go_wp2
  go_loopg [5, 6] ps.length (fun gh vb i wr => ∃ (k : Nat) (best : Int), i = .int .i64 (k : Int) ∧ vb = .int .u64 best ∧ k + gh = ps.length ∧ w = wr ∧ bestB ms ps (ps.drop k) best = M)
  case atStart => exact ⟨0, 0, rfl, rfl, by omega, rfl, HM.out.symm⟩
  case round =>
    obtain ⟨k, best, rfl, rfl, hk, rfl, hd⟩ := hrel
    have HD := Lib.hid hd
    clear hd
    by_cases hlt : k < ps.length
    · obtain ⟨p, hp, hdp⟩ := drop_cons hlt
      obtain ⟨b, o, rfl, _, _, c2, _⟩ := H2.out.at hp
      have HN : Hid (bestB ms ps (ps.drop (k + 1)) (if best < p.mtch ∧ majB ms ≤ haveB ms ps p.mtch then p.mtch else best) = M) := Lib.hid (by rw [← HD.out, hdp]; rfl)
      obtain ⟨t, ht⟩ : ∃ t, t = p.mtch := ⟨_, rfl⟩
      rw [← ht] at HN c2
      obtain ⟨hv, hhv⟩ : ∃ hv, hv = haveB ms ps t := ⟨_, rfl⟩
      obtain ⟨mj, hmj⟩ : ∃ mj, mj = majB ms := ⟨_, rfl⟩
      rw [← hhv, ← hmj] at HN
      have HHV := Lib.hid hhv; have HMJ := Lib.hid hmj
      clear hp hdp ht hhv hmj
      by_cases hb : best < t
      · go_wp2_with fail
        refine (rhave_c _ _ ms ps t _ H1.out H2.out).mono ?_
        rintro e w1 ⟨rfl, rfl⟩
        rw [← HHV.out]
        go_wp2_with fail
        refine (rmaj_c _ ms _ H1.out).mono ?_
        rintro e w1 ⟨rfl, rfl⟩
        rw [← HMJ.out]
        by_cases hh : mj ≤ hv
        · have HR : Hid (bestB ms ps (ps.drop (k + 1)) t = M) := Lib.hid (by rw [← HN.out, if_pos ⟨hb, hh⟩])
          go_wp2_with fail
          go_roundg (ps.length - (k + 1))
          case rel => exact ⟨k + 1, t, rfl, rfl, by omega, rfl, HR.out⟩
          case measure => omega
        · have HR : Hid (bestB ms ps (ps.drop (k + 1)) best = M) := Lib.hid (by rw [← HN.out, if_neg (fun h => hh h.2)])
          go_wp2_with fail
          go_roundg (ps.length - (k + 1))
          case rel => exact ⟨k + 1, best, rfl, rfl, by omega, rfl, HR.out⟩
          case measure => omega
      · have HR : Hid (bestB ms ps (ps.drop (k + 1)) best = M) := Lib.hid (by rw [← HN.out, if_neg (fun h => hb h.1)])
        go_wp2_with fail
        go_roundg (ps.length - (k + 1))
        case rel => exact ⟨k + 1, best, rfl, rfl, by omega, rfl, HR.out⟩
        case measure => omega
    · have HR : Hid (best = M) := Lib.hid (by rw [← HD.out, List.drop_eq_nil_of_le (by omega)]; rfl)
      go_wp2
      go_ret
      exact ⟨ret_eq (congrArg (Value.int .u64) HR.out), rfl⟩

/-- the first place of an ID; -1: none -/
def idxB : List PeerC → Int → Int
  | [], _ => -1
  | p :: r, x => if p.id = x then 0 else if idxB r x < 0 then -1 else idxB r x + 1
theorem idxB_spec : ∀ (ps : List PeerC) (x : Int), (idxB ps x = -1 ∧ matchB ps x = 0) ∨ ∃ (k : Nat) (p : PeerC), idxB ps x = (k : Int) ∧ ps[k]? = some p ∧ matchB ps x = p.mtch
  | [], _ => .inl ⟨rfl, rfl⟩
  | p :: r, x => by
    simp only [idxB, matchB]
    by_cases h : p.id = x
    · rw [if_pos h, if_pos h]; exact .inr ⟨0, p, rfl, rfl, rfl⟩
    · rw [if_neg h, if_neg h]
      rcases idxB_spec r x with ⟨h1, h2⟩ | ⟨k, q, h1, h2, h3⟩
      · left; rw [h1]; exact ⟨by simp, h2⟩
      · right
        refine ⟨k + 1, q, ?_, by simpa using h2, h3⟩
        rw [h1, if_neg (by omega)]; omega

set_option maxHeartbeats 1000000 in
theorem pred_c (p : PeerC) (x : Int) (ib : Addr) (w : World) (hi : w.cell? ib = some (.int .u64 x)) :
    Calls Try.prog 17 #[.agg (pcell p), .pointer (some ib)] w fun e w' => e = .returned (.bool (decide (p.id = x))) ∧ Ext w w' := by
  have hib := World.block_lt_of_cell? w ib hi
  obtain ⟨r, hr⟩ : ∃ r, r = decide (p.id = x) := ⟨_, rfl⟩
  rw [← hr]
  have hb : (p.id == x) = r := by rw [hr]; exact Bool.eq_iff_iff.2 (by simp)
  have hi2 := (Ext.alloc w (.cells (pcell p) 40)).cell hi
  have HE := Ext.alloc w (.cells (pcell p) 40)
  unfold pcell at *
  clear hr
  go_enter Try.func17, Try.ntmps17
  go_wp2
  go_ret
  exact ⟨rfl, HE⟩

theorem idx_drop {ps : List PeerC} {k : Nat} {p : PeerC} (hp : ps[k]? = some p) (x : Int) : idxB (ps.drop k) x = if p.id = x then 0 else if idxB (ps.drop (k + 1)) x < 0 then -1 else idxB (ps.drop (k + 1)) x + 1 := by
  obtain ⟨hlt, rfl⟩ := List.getElem?_eq_some_iff.1 hp
  rw [← List.getElem_cons_drop hlt]; rfl

set_option maxHeartbeats 2000000 in
theorem idx_c (v : Value) (ps : List PeerC) (x : Int) (ib : Addr) (w : World) (h : PeersV w v ps) (hi : w.cell? ib = some (.int .u64 x)) :
    Calls Try.prog 16 #[v, .func (.func 17) #[] #[.pointer (some ib)]] w fun e w' => e = .returned (.int .i64 (idxB ps x)) ∧ Ext w w' := by
  obtain ⟨a, c, rfl, h1, h2⟩ := h.shape
  unfold maxLen at h2
  obtain ⟨M, hM⟩ : ∃ M, M = idxB ps x := ⟨_, rfl⟩
  rw [← hM]
  have H := Lib.hid h; have HM := Lib.hid hM; have HI := Lib.hid hi
  clear h hM hi
  go_enter Try.func16, Try.ntmps16
  go_wp2
  go_loopg [8] ps.length (fun gh i wr => ∃ k : Nat, i = .int .i64 (k : Int) ∧ k + gh = ps.length ∧ Ext w wr ∧ (if idxB (ps.drop k) x < 0 then -1 else (k : Int) + idxB (ps.drop k) x) = M)
  case atStart => exact ⟨0, rfl, by omega, Ext.refl _, by rw [HM.out]; simp only [List.drop_zero]; rcases idxB_spec ps x with ⟨h, _⟩ | ⟨k, _, h, _⟩ <;> rw [h] <;> simp⟩
  case round =>
    obtain ⟨k, rfl, hk, hE, hd⟩ := hrel
    have HE := Lib.hid hE; have HD := Lib.hid hd
    clear hE hd
    by_cases hlt : k < ps.length
    · obtain ⟨p, hp, hdp⟩ := drop_cons hlt
      obtain ⟨b, o, rfl, c0, c1, c2, c3, c4, c5, c6, c7⟩ := (H.out.ext HE.out).at hp
      have HN := Lib.hid (idx_drop hp x)
      clear hp hdp
      go_wp2_with fail
      refine (pred_c p x ib wr (HE.out.cell HI.out)).mono ?_
      rintro e w1 ⟨rfl, hE1⟩
      have HE1 := Lib.hid (HE.out.trans hE1)
      clear hE1 c0 c1 c2 c3 c4 c5 c6 c7
      by_cases hx : p.id = x
      · have hb : decide (p.id = x) = true := decide_eq_true hx
        have HR : Hid ((k : Int) = M) := Lib.hid (by rw [← HD.out, HN.out, if_pos hx]; simp)
        rw [hb]
        clear hx hb
        go_wp2_with fail
        go_ret
        exact ⟨ret_eq (congrArg (Value.int .i64) HR.out), HE1.out⟩
      · have hb : decide (p.id = x) = false := decide_eq_false hx
        have HR : Hid ((if idxB (ps.drop (k + 1)) x < 0 then -1 else ((k + 1 : Nat) : Int) + idxB (ps.drop (k + 1)) x) = M) := Lib.hid (by
          rw [← HD.out, HN.out, if_neg hx]
          generalize idxB (ps.drop (k + 1)) x = q
          by_cases hq : q < 0
          · simp [hq]
          · rw [if_neg hq, if_neg hq, if_neg (by omega)]; omega)
        rw [hb]
        clear hx hb
        go_wp2_with fail
        go_roundg (ps.length - (k + 1))
        case rel => exact ⟨k + 1, rfl, by omega, HE1.out, HR.out⟩
        case measure => omega
    · have HR : Hid (-1 = M) := Lib.hid (by rw [← HD.out, List.drop_eq_nil_of_le (by omega)]; rfl)
      go_wp2
      go_ret
      exact ⟨ret_eq (congrArg (Value.int .i64) HR.out), HE.out⟩
end Go.Proofs.Ytgnkhpcnlffjnaa
