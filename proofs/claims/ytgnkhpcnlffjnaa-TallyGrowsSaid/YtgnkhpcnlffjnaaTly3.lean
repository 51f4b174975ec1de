/- Tally: the walk of the law TallyGrows. -/
import Derived.Test.YtgnkhpcnlffjnaaTly1
namespace Go.Proofs.Ytgnkhpcnlffjnaa
open Go Go.RowKit

/-! ### Plain -/
def setM (ps : List PeerC) (k : Nat) (x : Int) : List PeerC := ps.modify k fun p => { p with mtch := x }
theorem setM_cons_succ (q : PeerC) (r : List PeerC) (k : Nat) (x : Int) : setM (q :: r) (k + 1) x = q :: setM r k x := rfl
theorem matchB_up : ∀ (ps : List PeerC) (k : Nat) (p : PeerC) (x : Int), ps[k]? = some p → p.mtch ≤ x → ∀ y, matchB ps y ≤ matchB (setM ps k x) y
  | [], k, p, x, h, _, y => by simp at h
  | q :: r, 0, p, x, h, hle, y => by
    simp only [List.getElem?_cons_zero, Option.some.injEq] at h
    subst h
    simp only [setM, List.modify_zero_cons, matchB]
    split
    · exact hle
    · exact Int.le_refl _
  | q :: r, k + 1, p, x, h, hle, y => by
    simp only [List.getElem?_cons_succ] at h
    rw [setM_cons_succ]
    simp only [matchB]
    split
    · exact Int.le_refl _
    · exact matchB_up r k p x h hle y
theorem matchB_down : ∀ (ps : List PeerC) (k : Nat) (p : PeerC) (x : Int), ps[k]? = some p → x ≤ p.mtch → ∀ y, matchB (setM ps k x) y ≤ matchB ps y
  | [], k, p, x, h, _, y => by simp at h
  | q :: r, 0, p, x, h, hle, y => by
    simp only [List.getElem?_cons_zero, Option.some.injEq] at h
    subst h
    simp only [setM, List.modify_zero_cons, matchB]
    split
    · exact hle
    · exact Int.le_refl _
  | q :: r, k + 1, p, x, h, hle, y => by
    simp only [List.getElem?_cons_succ] at h
    rw [setM_cons_succ]
    simp only [matchB]
    split
    · exact Int.le_refl _
    · exact matchB_down r k p x h hle y
theorem haveB_le {a b : List PeerC} (h : ∀ y, matchB a y ≤ matchB b y) (ms : List Int) (x : Int) : haveB ms a x ≤ haveB ms b x := by
  unfold haveB
  induction ms with
  | nil => simp
  | cons m ms ih =>
    have hm := h m
    simp only [List.filter_cons, decide_eq_true_eq]
    by_cases h1 : x ≤ matchB a m
    · have h2 : x ≤ matchB b m := by omega
      rw [if_pos h1, if_pos h2, List.length_cons, List.length_cons]; omega
    · rw [if_neg h1]
      split
      · rw [List.length_cons]; omega
      · exact ih
theorem agr_le {ms : List Int} {a b : List PeerC} {p q : Int} (h : Agr ms a p) (k : Agr ms b q) (hle : ∀ y, matchB a y ≤ matchB b y) : p ≤ q := by
  by_cases hm : ms = []
  · rw [h.none hm, k.none hm]; exact Int.le_refl _
  · rcases Int.lt_or_le q p with hlt | hle2
    · have h1 := k.most hm p hlt
      have h2 := h.has hm
      have h3 := haveB_le hle ms p
      omega
    · exact hle2
theorem rem_at (a : Int) (n : Nat) (h : 1 ≤ n ∧ n ≤ 200) : ∃ m : Nat, wrap64 ((IntKind.u64.wrap a).tmod (n : Int)) = (m : Int) ∧ m < n := by
  have h0 : 0 ≤ IntKind.u64.wrap a ∧ IntKind.u64.wrap a < 18446744073709551616 := by
    rw [IntKind.wrap_u64]; omega
  generalize IntKind.u64.wrap a = u at *
  rw [Int.tmod_eq_emod_of_nonneg h0.1]
  have h1 := Int.emod_nonneg u (show (n : Int) ≠ 0 by omega)
  have h2 := Int.emod_lt_of_pos u (show (0 : Int) < n by omega)
  obtain ⟨m, hm⟩ := Int.eq_ofNat_of_zero_le h1
  refine ⟨m, ?_, by omega⟩
  rw [hm]
  exact IntWalk.wrap64_in _ ⟨by omega, by omega⟩

/-! ### A row of peers of the call's own -/
/-- cur holds the peers ps from its head on. -/
def PB (cur : Array Value) (ps : List PeerC) : Prop := ∀ j p, ps[j]? = some p → ∀ i u, (pcell p)[i]? = some u → cur[j * 8 + i]? = some u
theorem PB.view {w : World} {b : Nat} {e : TypeId} {cur : Array Value} {ps : List PeerC} (h : PB cur ps) (hB : Blk w b cur e) {c : Nat} (h1 : ps.length ≤ c) (h2 : c ≤ maxLen) : PeersV w (.slice (some ⟨b, 0, none⟩) ps.length c) ps :=
  ⟨_, c, rfl, h1, h2, .inr ⟨b, 0, rfl, fun j p hp i u hu => by rw [Nat.zero_add]; exact hB.cell _ (h j p hp i u hu)⟩⟩
theorem pcell_size (p : PeerC) : (pcell p).size = 8 := rfl
theorem PB.set {cur : Array Value} {ps : List PeerC} (h : PB cur ps) {k : Nat} (hk : k < ps.length) (x : Int) : PB (cur.setIfInBounds (k * 8 + 2) (.int .u64 x)) (setM ps k x) := by
  intro j p hp i u hu
  have hi : i < 8 := by have := (Array.getElem?_eq_some_iff.1 hu).1; rwa [pcell_size] at this
  have hkc : k * 8 + 2 < cur.size := by
    have := h k ps[k] (List.getElem?_eq_getElem hk) 2 _ rfl
    exact (Array.getElem?_eq_some_iff.1 this).1
  by_cases hjk : j = k
  · subst hjk
    have hp' : p = { ps[j] with mtch := x } := by
      rw [setM, List.getElem?_modify, List.getElem?_eq_getElem hk] at hp
      simpa using hp.symm
    subst hp'
    by_cases hi2 : i = 2
    · subst hi2
      rw [Array.getElem?_setIfInBounds_self_of_lt hkc]
      simpa [pcell] using hu
    · rw [Array.getElem?_setIfInBounds_ne (by omega)]
      refine h j ps[j] (List.getElem?_eq_getElem hk) i u ?_
      rw [← hu]
      have : i = 0 ∨ i = 1 ∨ i = 3 ∨ i = 4 ∨ i = 5 ∨ i = 6 ∨ i = 7 := by omega
      rcases this with rfl | rfl | rfl | rfl | rfl | rfl | rfl <;> rfl
  · rw [Array.getElem?_setIfInBounds_ne (by omega)]
    refine h j p ?_ i u hu
    rw [setM, List.getElem?_modify] at hp
    simpa [Ne.symm hjk] using hp
theorem setM_len (ps : List PeerC) (k : Nat) (x : Int) : (setM ps k x).length = ps.length := by simp [setM]
theorem setM_mem : ∀ (ps : List PeerC) (k : Nat) (x : Int) (p : PeerC), p ∈ setM ps k x → p.mtch = x ∨ p ∈ ps
  | [], k, x, p, h => by cases k <;> simp [setM] at h
  | q :: r, 0, x, p, h => by
    simp only [setM, List.modify_zero_cons, List.mem_cons] at h
    rcases h with rfl | h
    · exact .inl rfl
    · exact .inr (by simp [h])
  | q :: r, k + 1, x, p, h => by
    rw [setM_cons_succ] at h
    rcases List.mem_cons.1 h with rfl | h
    · exact .inr (by simp)
    · rcases setM_mem r k x p h with h | h
      · exact .inl h
      · exact .inr (by simp [h])
theorem own8_nil (w : World) (e : TypeId) : (w.alloc (.cells #[] e)).ownsRow w.heap.size e 8 (.slice (some ⟨w.heap.size, 0, none⟩) 0 0) 0 [] :=
  ⟨by simp, .inr ⟨w.heap.size, 0, #[], rfl, Nat.le_refl _, heap_alloc_new w _, Nat.le_refl _, by unfold maxLen; omega, by simp, by simp⟩⟩
theorem pb_of_own {w : World} {base : Nat} {e : TypeId} {v : Value} {ps : List PeerC} (h : w.ownsRow base e 8 v ps.length (ps.flatMap fun p => (pcell p).toList)) (hne : ps ≠ []) :
    ∃ g cap cur, v = .slice (some ⟨g, 0, none⟩) ps.length cap ∧ base ≤ g ∧ Blk w g cur e ∧ ps.length ≤ cap ∧ cap ≤ maxLen ∧ PB cur ps := by
  rcases h.2 with ⟨_, hx⟩ | ⟨g, cap, cur, hv, hg, hh, h1, h2, h3, h4⟩
  · cases ps with
    | nil => exact absurd rfl hne
    | cons q r => simp [pcell] at hx
  · refine ⟨g, cap, cur, hv, hg, hh, h1, h2, fun j p hp i u hu => ?_⟩
    have h5 := flat_get ps j p i u hp hu
    rw [← h4, List.getElem?_take] at h5
    split at h5
    · simpa using h5
    · cases h5
theorem flat_one {ps : List PeerC} (h : ∀ p ∈ ps, ∀ u ∈ pcell p, u.oneCell' = true) : ∀ u ∈ ps.flatMap fun p => (pcell p).toList, u.oneCell' = true := by
  intro u hu
  obtain ⟨p, hp, hu⟩ := List.mem_flatMap.1 hu
  exact h p hp u (by simpa using hu)
theorem flat_len8 (ps : List PeerC) : (ps.flatMap fun p => (pcell p).toList).length = ps.length * 8 := by
  induction ps with
  | nil => rfl
  | cons p r ih =>
    have : (pcell p).toList.length = 8 := rfl
    rw [List.flatMap_cons, List.length_append, ih, this, List.length_cons]; omega
theorem flat_at {ps : List PeerC} {k : Nat} {u : Value} (h : (ps.flatMap fun p => (pcell p).toList)[k]? = some u) : ∃ p, ps[k / 8]? = some p ∧ (pcell p)[k % 8]? = some u := by
  have hk : k < ps.length * 8 := by have := (List.getElem?_eq_some_iff.1 h).1; rwa [flat_len8] at this
  have hj : k / 8 < ps.length := by omega
  refine ⟨ps[k / 8], List.getElem?_eq_getElem hj, ?_⟩
  have hi : k % 8 < (pcell ps[k / 8]).size := by rw [pcell_size]; omega
  have := flat_get ps (k / 8) ps[k / 8] (k % 8) _ (List.getElem?_eq_getElem hj) (Array.getElem?_eq_getElem hi)
  rw [show k / 8 * 8 + k % 8 = k by omega, h] at this
  rw [Array.getElem?_eq_getElem hi, this]

theorem infoPeer : (Try.prog.info? 40).map (fun i => (i.zero, i.size, i.bytes)) = some (some (.agg #[.int .u64 0, .int .u64 0, .int .u64 0, .int .u64 0, .float .f64 0, .float .f64 0, .float .f64 0, .float .f64 0]), 8, 64) := by kernel_rfl

set_option maxHeartbeats 4000000 in
theorem grows_law (v1 v2 : Value) (ms : List Int) (ps : List PeerC) (which more : Int) (w : World) (h1 : Rd w v1 (u64s ms)) (h2 : PeersV w v2 ps) (hp : ∀ p ∈ ps, U64 p.mtch) (h1c : ∀ p ∈ ps, ∀ u ∈ pcell p, u.oneCell' = true) (hmore : U64 more) (hwh : -9223372036854775808 ≤ which ∧ which ≤ 9223372036854775807) :
    Calls Try.prog 6 #[v1, v2, .int .i64 which, .int .u64 more] w (RetW (.bool true) w) := by
  obtain ⟨a1, n1, c1, rfl⟩ := Rd.shape h1
  obtain ⟨a2, c2, rfl, hl2, hm2⟩ := h2.shape
  unfold maxLen at hm2
  obtain ⟨i0, hi, hz0, hz1, hz2⟩ := info_parts infoPeer
  have H1 := Lib.hid h1; have H2 := Lib.hid h2; have HP := Lib.hid hp; have H1C := Lib.hid h1c; have HI := Lib.hid hi; have HZ0 := Lib.hid hz0; have HZ1 := Lib.hid hz1; have HZ2 := Lib.hid hz2
  obtain ⟨mo0, mo1⟩ := hmore
  obtain ⟨wh0, wh1⟩ := hwh
  clear h1 h2 hp h1c hi hz0 hz1 hz2
  go_enter Try.func6, Try.ntmps6
  go_wp2_with fail
  refine (awake23 w).mono ?_
  rintro e w1 ⟨rfl, hE1⟩
  have HE1 := Lib.hid hE1
  clear hE1
  go_wp2_with fail
  refine (few_c _ _ ms ps w1 (H1.out.ext HE1.out) (H2.out.ext HE1.out)).mono ?_
  rintro e w2 ⟨rfl, rfl⟩
  obtain ⟨f, hf⟩ : ∃ f, f = decide (ms.length ≤ 100 ∧ ps.length ≤ 100) := ⟨_, rfl⟩
  rw [← hf]
  have HF := Lib.hid hf
  clear hf
  cases f with
  | false =>
    go_wp2_with fail
    refine (awake23 w1).mono ?_
    rintro e w3 ⟨rfl, hE3⟩
    have HE3 := Lib.hid (HE1.out.trans hE3)
    clear hE3
    go_wp2_with fail
    go_ret
    exact ⟨rfl, HE3.out⟩
  | true =>
    have hfew := of_decide_eq_true HF.out.symm
    have HFEW := Lib.hid hfew
    clear hfew
    by_cases hp0 : ps = []
    · have hpl : ((ps.length : Int) == 0) = true := by rw [hp0]; rfl
      clear hp0
      go_wp2_with fail
      refine (awake23 w1).mono ?_
      rintro e w3 ⟨rfl, hE3⟩
      have HE3 := Lib.hid (HE1.out.trans hE3)
      clear hE3
      go_wp2_with fail
      go_ret
      exact ⟨rfl, HE3.out⟩
    · have hpl1 : 1 ≤ ps.length ∧ ps.length ≤ 100 := ⟨List.length_pos_iff.2 hp0, HFEW.out.2⟩
      have hpl : ((ps.length : Int) == 0) = false := by rw [beq_eq_false_iff_ne]; omega
      obtain ⟨m, hm, hmn⟩ := rem_at which ps.length ⟨hpl1.1, by omega⟩
      have hwl : IntKind.u64.wrap (ps.length : Int) = (ps.length : Int) := by rw [IntKind.wrap_u64]; omega
      have HP0 := Lib.hid hp0
      clear hp0
      go_wp2_with fail
      rw [hm]
      refine (agreed_c _ _ ms ps w1 (H1.out.ext HE1.out) (H2.out.ext HE1.out) (by have := HFEW.out; omega) (fun p hm => (HP.out p hm).1)).mono ?_
      rintro e w3 ⟨r, rfl, hr, hE3⟩
      have HR := Lib.hid hr
      have HE3 := Lib.hid (HE1.out.trans hE3)
      clear hr hE3 hm hwl hpl
      obtain ⟨b, o, ha2⟩ : ∃ b o, a2 = some ⟨b, o, none⟩ := by
        obtain ⟨b, o, h, _⟩ := (H2.out).at (List.getElem?_eq_getElem hmn)
        exact ⟨b, o, h⟩
      subst ha2
      have ho := own8_nil w3 40
      have HO := Lib.hid ho
      have hnews : ∀ j u, (ps.flatMap fun p => (pcell p).toList)[j]? = some u → (w3.alloc (.cells #[] 40)).cell? ((⟨b, o, none⟩ : Addr).add j) = some u := fun j u hj => by
        obtain ⟨p, hp, hu⟩ := flat_at hj
        obtain ⟨a', c', hv, _, _, hc⟩ := H2.out.ext (HE3.out.trans (Ext.alloc w3 (.cells #[] 40)))
        cases hv
        obtain ⟨b', o', hb, hc⟩ := hc.resolve_left HP0.out
        cases hb
        have := hc _ _ hp _ _ hu
        rw [Addr.add_lit, show o + j = o + j / 8 * 8 + j % 8 by omega]; exact this
      have HNEWS := Lib.hid hnews
      clear ho hnews
      go_wp2_with (at_builtin; go_loud (refine wpList_append_own _ rfl (.tmp 37) (.tmp 38) _ rfl w3.heap.size 40 i0 _ 8 64 Try.underlying23 HI.out HZ0.out HZ1.out HZ2.out rfl (by decide) _ 0 [] rfl HO.out ⟨b, o, none⟩ ps.length c2 (ps.flatMap fun p => (pcell p).toList) rfl (flat_len8 ps) HNEWS.out (flat_one H1C.out) (by unfold maxLen; omega) (by omega) (by simp) ?_))
      intro v4 w4 ho4 hg4 _
      obtain ⟨g, cap, cur, rfl, hgb, hB, hlc, hcm, hPB⟩ := pb_of_own ho4 HP0.out
      obtain ⟨p, hpm⟩ : ∃ p, ps[m]? = some p := ⟨_, List.getElem?_eq_getElem hmn⟩
      obtain ⟨was, hwas⟩ : ∃ was, was = p.mtch := ⟨_, rfl⟩
      have c2' : w4.cell? ⟨g, m * 8 + 2, none⟩ = some (.int .u64 p.mtch) := hB.cell _ (hPB m p hpm 2 _ rfl)
      rw [← hwas] at c2'
      have f2 := hB.free (m * 8 + 2)
      have hE4 : Ext w w4 := Below.grown (HE3.out.trans (Ext.alloc w3 (.cells #[] 40))) hg4 (by have := HE3.out.size; simp; omega) (by intro k hk; have := HE3.out.size; simp [Value.ownBlock] at hk; omega)
      have hg3 : w.heap.size ≤ g := Nat.le_trans HE3.out.size hgb
      have hE5 : Ext w (w4.setCell ⟨g, m * 8 + 2, none⟩ (.int .u64 more)) := Below.setCell hE4 hg3 _
      have hV := (hPB.set hmn more).view (hB.set (m * 8 + 2) (.int .u64 more)) (c := cap) (by rw [setM_len]; exact hlc) hcm
      rw [setM_len] at hV
      have hup : was ≤ more → ∀ y, matchB ps y ≤ matchB (setM ps m more) y := fun h => matchB_up ps m p more hpm (by rw [← hwas]; exact h)
      have hdn : more ≤ was → ∀ y, matchB (setM ps m more) y ≤ matchB ps y := fun h => matchB_down ps m p more hpm (by rw [← hwas]; exact h)
      have HE5 := Lib.hid hE5; have HV := Lib.hid hV; have HUP := Lib.hid hup; have HDN := Lib.hid hdn
      clear ho4 hg4 hgb hB hcm hPB hpm hwas hE4 hg3 hE5 hV hup hdn
      unfold maxLen at *
      go_wp2_with fail
      refine (agreed_c _ _ ms (setM ps m more) _ (H1.out.ext HE5.out) HV.out (by have := HFEW.out; omega) (fun q hq => by rcases setM_mem _ _ _ _ hq with h | h; omega; exact (HP.out q h).1)).mono ?_
      rintro e w5 ⟨r2, rfl, hr2, hE6⟩
      have hle : was ≤ more → r ≤ r2 := fun h => agr_le HR.out hr2 (HUP.out h)
      have hge : more ≤ was → r2 ≤ r := fun h => agr_le hr2 HR.out (HDN.out h)
      have HE6 := Lib.hid (HE5.out.trans hE6)
      clear hr2 hE6 c2' f2
      rcases Int.lt_trichotomy more was with hlt | heq | hgt
      · have h1 := hge (Int.le_of_lt hlt)
        clear hle hge
        go_wp2_with fail
        go_ret
        exact ⟨rfl, HE6.out⟩
      · have h1 := hge (Int.le_of_eq heq)
        have h2 := hle (Int.le_of_eq heq.symm)
        subst heq
        clear hle hge
        go_wp2_with fail
        go_ret
        exact ⟨rfl, HE6.out⟩
      · have h1 := hle (Int.le_of_lt hgt)
        clear hle hge
        go_wp2_with fail
        go_ret
        exact ⟨rfl, HE6.out⟩
end Go.Proofs.Ytgnkhpcnlffjnaa
