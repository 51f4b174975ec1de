/- Layer 25 (seq): slices.Clone at leaves, clients, slots. PRINTED BY gen/sqc.py -/
import Derived.Test.YtgefphfnicjbiaaClo
import Derived.Test.YtgefphfnicjbiaaSqb
import Derived.Test.YtgefphfnicjbiaaConcat
namespace Go.Proofs.Ytgefphfnicjbiaa
open Go Go.RowKit

theorem infoLf : (Try.prog.info? 29).map (fun i => (i.zero, i.size, i.bytes)) = some (some (.slice none 0 0), 1, 24) := by kernel_rfl
theorem infoCl : (Try.prog.info? 55).map (fun i => (i.zero, i.size, i.bytes)) = some (some (.agg #[.int .u64 0, .slice none 0 0]), 2, 32) := by kernel_rfl
theorem infoSl : (Try.prog.info? 59).map (fun i => (i.zero, i.size, i.bytes)) = some (some (.agg #[.int .u64 0, .int .u64 0]), 2, 16) := by kernel_rfl
theorem flat_len {s : Nat} : ∀ {rows : List (List Value)}, (∀ r ∈ rows, r.length = s) → rows.flatten.length = rows.length * s
  | [], _ => by simp
  | r :: t, h => by rw [List.flatten_cons, List.length_append, h r (by simp), flat_len (fun x hx => h x (by simp [hx])), List.length_cons, Nat.succ_mul]; omega
theorem RowV.news {w : World} {s : Nat} {a : Option Addr} {n c : Nat} {rows : List (List Value)} (h : RowV w s (.slice a n c) rows) (hs : ∀ r ∈ rows, r.length = s) : n = 0 ∨ ∃ ad, a = some ad ∧ ∀ j u, rows.flatten[j]? = some u → w.cell? (ad.add j) = some u := by
  obtain ⟨a', c', hv, h1, h2, h3⟩ := h
  cases hv
  rcases h3 with h3 | ⟨b, o, rfl, hc⟩
  · left; rw [h3]; rfl
  · refine .inr ⟨_, rfl, fun j u hj => ?_⟩
    obtain ⟨i, r, j', h4, h5, rfl⟩ := flat_row rows j hs hj
    rw [Addr.add_lit, ← Nat.add_assoc]
    exact hc i r h4 j' u h5

set_option maxHeartbeats 2000000 in
theorem cloneL_c (v : Value) (rows : List (List Value)) (w : World) (h : RowV w 1 v rows) (hs : ∀ r ∈ rows, r.length = 1) (hl : rows.length ≤ 1000000) :
    Calls Try.prog 50 #[v] w fun e w' => ∃ v', e = .returned v' ∧ w'.ownsRow w.heap.size 29 1 v' rows.length rows.flatten ∧ Ext w w' := by
  have HV := Lib.hid h; have HS := Lib.hid hs
  obtain ⟨n, hn⟩ : ∃ n, n = rows.length := ⟨_, rfl⟩
  obtain ⟨a, c, rfl, hc1, hc2⟩ := h.shape
  rw [← hn] at hl hc1 HV ⊢
  have HN := Lib.hid hn
  have HF := Lib.hid (show rows.flatten.length = n * 1 from by rw [flat_len hs, ← hn])
  have q := fun (w : World) (a : Option Addr) (n c n' c' : Nat) => Lib.run_eql_slice_nil (P := Try.prog) w 24 _ a n c n' c' Try.underlying24
  clear h hs hn
  cases a with
  | none =>
    have h0 : n = 0 ∧ rows.flatten = [] := by
      rcases HV.out.news HS.out with h | ⟨ad, h, _⟩
      · exact ⟨h, List.eq_nil_of_length_eq_zero (by rw [HF.out, h, Nat.zero_mul])⟩
      · cases h
    have H0 := Lib.hid h0
    clear h0
    go_enter Try.func50, Try.ntmps50
    go_wp2_with fail
    go_ret
    rw [H0.out.1, H0.out.2]
    exact ⟨_, rfl, World.ownsRow_nil _ _ _ _, Ext.refl _⟩
  | some ad =>
    have HE := Lib.hid (Ext.alloc w (.cells #[] 29))
    have HB := Lib.hid (Blk.new w #[] 29)
    go_enter Try.func50, Try.ntmps50
    go_wp2_with (at_builtin; refine wpList_append_half rfl (.tmp 5) (.tmp 6) _ rfl 29 _ 1 24 Try.underlying24 infoLf rfl (by omega) w.heap.size rfl (some ad) n c rows.flatten rfl HF.out ((HV.out.ext HE.out).news HS.out) (by unfold maxLen; omega) (by omega) ?_; intro v2 w2 hh hE2; have HH := Lib.hid (hh.own (base := w.heap.size) hE2 HB.out (Nat.le_refl _) HE.out.size HF.out); have HE2 := Lib.hid (HE.out.trans hE2); clear hh hE2)
    go_wp2_with fail
    go_ret
    exact ⟨_, rfl, HH.out, HE2.out⟩

set_option maxHeartbeats 2000000 in
theorem cloneC_c (v : Value) (rows : List (List Value)) (w : World) (h : RowV w 2 v rows) (hs : ∀ r ∈ rows, r.length = 2) (hl : rows.length ≤ 1000000) :
    Calls Try.prog 51 #[v] w fun e w' => ∃ v', e = .returned v' ∧ w'.ownsRow w.heap.size 55 2 v' rows.length rows.flatten ∧ Ext w w' := by
  have HV := Lib.hid h; have HS := Lib.hid hs
  obtain ⟨n, hn⟩ : ∃ n, n = rows.length := ⟨_, rfl⟩
  obtain ⟨a, c, rfl, hc1, hc2⟩ := h.shape
  rw [← hn] at hl hc1 HV ⊢
  have HN := Lib.hid hn
  have HF := Lib.hid (show rows.flatten.length = n * 2 from by rw [flat_len hs, ← hn])
  have q := fun (w : World) (a : Option Addr) (n c n' c' : Nat) => Lib.run_eql_slice_nil (P := Try.prog) w 25 _ a n c n' c' Try.underlying25
  clear h hs hn
  cases a with
  | none =>
    have h0 : n = 0 ∧ rows.flatten = [] := by
      rcases HV.out.news HS.out with h | ⟨ad, h, _⟩
      · exact ⟨h, List.eq_nil_of_length_eq_zero (by rw [HF.out, h, Nat.zero_mul])⟩
      · cases h
    have H0 := Lib.hid h0
    clear h0
    go_enter Try.func51, Try.ntmps51
    go_wp2_with fail
    go_ret
    rw [H0.out.1, H0.out.2]
    exact ⟨_, rfl, World.ownsRow_nil _ _ _ _, Ext.refl _⟩
  | some ad =>
    have HE := Lib.hid (Ext.alloc w (.cells #[] 55))
    have HB := Lib.hid (Blk.new w #[] 55)
    go_enter Try.func51, Try.ntmps51
    go_wp2_with (at_builtin; refine wpList_append_half rfl (.tmp 5) (.tmp 6) _ rfl 55 _ 2 32 Try.underlying25 infoCl rfl (by omega) w.heap.size rfl (some ad) n c rows.flatten rfl HF.out ((HV.out.ext HE.out).news HS.out) (by unfold maxLen; omega) (by omega) ?_; intro v2 w2 hh hE2; have HH := Lib.hid (hh.own (base := w.heap.size) hE2 HB.out (Nat.le_refl _) HE.out.size HF.out); have HE2 := Lib.hid (HE.out.trans hE2); clear hh hE2)
    go_wp2_with fail
    go_ret
    exact ⟨_, rfl, HH.out, HE2.out⟩

set_option maxHeartbeats 2000000 in
theorem cloneS_c (v : Value) (rows : List (List Value)) (w : World) (h : RowV w 2 v rows) (hs : ∀ r ∈ rows, r.length = 2) (hl : rows.length ≤ 1000000) :
    Calls Try.prog 52 #[v] w fun e w' => ∃ v', e = .returned v' ∧ w'.ownsRow w.heap.size 59 2 v' rows.length rows.flatten ∧ Ext w w' := by
  have HV := Lib.hid h; have HS := Lib.hid hs
  obtain ⟨n, hn⟩ : ∃ n, n = rows.length := ⟨_, rfl⟩
  obtain ⟨a, c, rfl, hc1, hc2⟩ := h.shape
  rw [← hn] at hl hc1 HV ⊢
  have HN := Lib.hid hn
  have HF := Lib.hid (show rows.flatten.length = n * 2 from by rw [flat_len hs, ← hn])
  have q := fun (w : World) (a : Option Addr) (n c n' c' : Nat) => Lib.run_eql_slice_nil (P := Try.prog) w 53 _ a n c n' c' Try.underlying53
  clear h hs hn
  cases a with
  | none =>
    have h0 : n = 0 ∧ rows.flatten = [] := by
      rcases HV.out.news HS.out with h | ⟨ad, h, _⟩
      · exact ⟨h, List.eq_nil_of_length_eq_zero (by rw [HF.out, h, Nat.zero_mul])⟩
      · cases h
    have H0 := Lib.hid h0
    clear h0
    go_enter Try.func52, Try.ntmps52
    go_wp2_with fail
    go_ret
    rw [H0.out.1, H0.out.2]
    exact ⟨_, rfl, World.ownsRow_nil _ _ _ _, Ext.refl _⟩
  | some ad =>
    have HE := Lib.hid (Ext.alloc w (.cells #[] 59))
    have HB := Lib.hid (Blk.new w #[] 59)
    go_enter Try.func52, Try.ntmps52
    go_wp2_with (at_builtin; refine wpList_append_half rfl (.tmp 5) (.tmp 6) _ rfl 59 _ 2 16 Try.underlying53 infoSl rfl (by omega) w.heap.size rfl (some ad) n c rows.flatten rfl HF.out ((HV.out.ext HE.out).news HS.out) (by unfold maxLen; omega) (by omega) ?_; intro v2 w2 hh hE2; have HH := Lib.hid (hh.own (base := w.heap.size) hE2 HB.out (Nat.le_refl _) HE.out.size HF.out); have HE2 := Lib.hid (HE.out.trans hE2); clear hh hE2)
    go_wp2_with fail
    go_ret
    exact ⟨_, rfl, HH.out, HE2.out⟩

end Go.Proofs.Ytgefphfnicjbiaa
