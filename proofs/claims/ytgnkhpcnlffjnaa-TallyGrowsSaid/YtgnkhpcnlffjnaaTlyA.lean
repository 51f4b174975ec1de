/- Tally: Agreed. -/
import Derived.Test.YtgnkhpcnlffjnaaTlyW
import Derived.Test.YtgnkhpcnlffjnaaSrt9
namespace Go.Proofs.Ytgnkhpcnlffjnaa
open Go Go.RowKit Go.Sort

theorem el64 : ElT Try.prog 22 26 (.int .u64 0) 8 := ElT.mk' Try.underlying22 (by kernel_rfl) rfl

theorem arr_of_own {w : World} {base n cap : Nat} {g : Nat} {d : Array Int} (h : w.ownsRow base 26 1 (.slice (some ⟨g, 0, none⟩) n cap) n (d.toList.map (Value.int .u64))) (hd : d.size = n) : Arr w g d n := by
  rcases h.2 with ⟨hv, _⟩ | ⟨g', cap', cur, hv, _, hg, h1, h2, h3, h4⟩
  · cases hv
  · cases hv
    refine ⟨hd, cur, hg, by simp at h3; omega, fun j hj => ?_⟩
    have h5 : (d.toList.map (Value.int .u64))[j]? = some (.int .u64 d[j]!) := by simp [hd, hj]
    rw [← h4, List.getElem?_take] at h5
    split at h5
    · simpa using h5
    · cases h5

def AgrP (ms : List Int) (ps : List PeerC) (w : World) (en : Ending) (w' : World) : Prop := ∃ r, en = .returned (.int .u64 r) ∧ Agr ms ps r ∧ Ext w w'

theorem agr_of_sorted (ms : List Int) (ps : List PeerC) (d R : Array Int) (hm : ms ≠ []) (h0 : ∀ p ∈ ps, 0 ≤ p.mtch) (hsz : d.size = ms.length) (hd : ∀ j, j < ms.length → d[j]! = matchB ps (ms.getD j 0)) (hR : R.size = ms.length) (hS : Sorted 0 ms.length d R) :
    Agr ms ps R[ms.length - majB ms]! := by
  have hdl : d.toList = ms.map (matchB ps) := by
    apply List.ext_getElem
    · simp [hsz]
    · intro j h1 h2
      have h3 : j < ms.length := by simpa using h2
      have := hd j h3
      rw [getElem!_pos d j (by omega)] at this
      simp [List.getD, List.getElem?_eq_getElem h3] at this
      simpa using this
  have hP := hS.1.2.2
  have e1 : R.extract 0 ms.length = R := by rw [← hR]; simp
  have e2 : d.extract 0 ms.length = d := by rw [← hsz]; simp
  rw [e1, e2, hdl] at hP
  have hl : R.toList.length = ms.length := by simpa using hR
  have := agr_row ms ps R.toList hP (fun i j hij hj => by
    have := hS.2 i j (Nat.zero_le _) hij (by omega)
    simp only [ltInt, decide_eq_false_iff_not] at this
    rw [getElem!_pos R i (by omega), getElem!_pos R j (by omega)] at this
    have hi : i < R.toList.length := by omega
    simp [List.getD, List.getElem?_eq_getElem hi, List.getElem?_eq_getElem hj]
    omega) hm h0
  have hpos : 0 < ms.length := List.length_pos_iff.2 hm
  rw [hl] at this
  have hk : ms.length - majB ms < R.size := by unfold majB; omega
  rw [getElem!_pos R _ hk]
  simpa [List.getD, hk] using this

set_option maxHeartbeats 4000000 in
theorem agreed_c (v1 v2 : Value) (ms : List Int) (ps : List PeerC) (w : World) (h1 : Rd w v1 (u64s ms)) (h2 : PeersV w v2 ps) (hl : ms.length ≤ 1000000) (h0 : ∀ p ∈ ps, 0 ≤ p.mtch) :
    Calls Try.prog 10 #[v1, v2] w (AgrP ms ps w) := by
  have hmf : ∀ (fn : Fn) (first cap : Array Value) (w : World), (Instr.makeFunc fn first cap).run Try.prog w = .ok (.func fn first cap) w := fun _ _ _ _ => rfl
  obtain ⟨a1, c1, rfl, hl1, hm1, _⟩ := Rd.open h1
  obtain ⟨a2, c2, rfl, hl2, hm2⟩ := h2.shape
  unfold maxLen at hm1 hm2
  have H1 := Lib.hid h1; have H2 := Lib.hid h2; have H0 := Lib.hid h0
  clear h1 h2 h0
  by_cases hm : ms = []
  · subst hm
    go_enter Try.func10, Try.ntmps10
    go_wp2_with fail
    go_ret
    exact ⟨0, rfl, ⟨by omega, fun _ => rfl, fun h => absurd rfl h, fun h => absurd rfl h⟩, Ext.refl _⟩
  · have hpos : 0 < ms.length := List.length_pos_iff.2 hm
    obtain ⟨n, hn⟩ : ∃ n, n = ms.length := ⟨_, rfl⟩
    have hne0 : ((n : Int) == 0) = false := by rw [beq_eq_false_iff_ne]; omega
    have hne1 : ((ms.length : Int) == 0) = false := by rw [beq_eq_false_iff_ne]; omega
    have HM := Lib.hid hm; have HN := Lib.hid hn
    clear hm
    go_enter Try.func10, Try.ntmps10
    go_upto_region 3 with fail
    go_wp2_with ((refine wpList_makeN rfl (.tmp 13) (.tmp 13) 22 rfl el64 w.heap.size .i64 .i64 (ms.length : Int) (ms.length : Int) ms.length rfl rfl rfl rfl (by omega) (by unfold maxLen; omega) (Nat.le_refl _) ?_))
    intro w3 ho3 hg3
    have hz : ((madeCells #[Value.int .u64 0] ms.length).toList) = (Array.replicate ms.length (0 : Int)).toList.map (Value.int .u64) := by
      apply List.ext_getElem
      · simp [size_madeCells]
      · intro j h1 h2
        simp [madeCells, Nat.mod_one]
    have hA3 : Arr w3 w.heap.size (Array.replicate ms.length (0 : Int)) ms.length := arr_of_own (by rw [hz] at ho3; exact ho3) (by simp)
    have hE3 : Ext w w3 := Ext.grown hg3 (by simp)
    have hlt3 := hA3.lt
    have HA3 := Lib.hid (At.refl hA3); have HE3 := Lib.hid hE3
    clear ho3 hg3 hz hA3 hE3 hne0 hn
    have hge : ∀ (wr : World) (d : Array Int), At w3 w.heap.size ms.length d wr → Ext w wr := fun _ _ hA => Below.grown HE3.out hA.ex HE3.out.size fun k hk => by have := Option.some.inj hk; omega
    have HGE := Lib.hid hge
    clear hge
    go_wp2_with fail
    go_loopg [17] ms.length (fun gh i wr => ∃ (k : Nat) (dk : Array Int), i = .int .i64 (k : Int) ∧ k + gh = ms.length ∧ At w3 w.heap.size ms.length dk wr ∧ (∀ j, j < k → dk[j]! = matchB ps (ms.getD j 0)) ∧ (∀ j, k ≤ j → j < ms.length → dk[j]! = 0))
    case atStart => exact ⟨0, _, rfl, by omega, HA3.out, fun j hj => by omega, fun j _ hj => by simp [hj]⟩
    case round =>
      obtain ⟨k, dk, rfl, hk, hA, hd1, hd2⟩ := hrel
      have HA := Lib.hid hA; have HD1 := Lib.hid hd1; have HD2 := Lib.hid hd2
      have HEW := Lib.hid (HGE.out _ _ hA)
      clear hA hd1 hd2
      by_cases hlt : k < ms.length
      · obtain ⟨a', c', hv, _, _, hc⟩ := Rd.open (H1.out.ext HEW.out)
        cases hv
        obtain ⟨b, o, rfl, hcc⟩ := hc.resolve_left HM.out
        have cx := hcc k hlt
        obtain ⟨x, hx⟩ : ∃ x, x = ms.getD k 0 := ⟨_, rfl⟩
        rw [← hx] at cx
        have HX := Lib.hid hx
        clear hc hcc hx
        go_wp2_with fail
        refine (idx_c _ ps x ⟨wr.heap.size, 0, none⟩ _ (H2.out.ext (HEW.out.trans (Ext.alloc _ _))) (by simp [World.cell?_alloc_new])).mono ?_
        rintro e w4 ⟨rfl, hE4⟩
        have hA4 : At w3 w.heap.size ms.length dk w4 := HA.out.trans ⟨Ext.grownBy ((Ext.alloc _ _).trans hE4) _, HA.out.arr.grown (r := none) (Ext.grownBy ((Ext.alloc _ _).trans hE4) _) (by simp)⟩
        have hP4 := H2.out.ext (HEW.out.trans ((Ext.alloc _ _).trans hE4))
        have HA4 := Lib.hid hA4; have HP4 := Lib.hid hP4
        clear hE4 hA4 hP4 cx
        rcases idxB_spec ps x with ⟨hi, hmz⟩ | ⟨q, p, hi, hp, hmz⟩
        · rw [hi]
          have HZ := Lib.hid hmz
          clear hi hmz
          go_wp2_with fail
          go_roundg (ms.length - (k + 1))
          case rel =>
            refine ⟨k + 1, dk, rfl, by omega, HA4.out, fun j hj => ?_, fun j hj hj2 => HD2.out j (by omega) hj2⟩
            by_cases hjk : j = k
            · subst hjk; rw [HD2.out j (Nat.le_refl _) hlt, ← HX.out, HZ.out]
            · exact HD1.out j (by omega)
          case measure => omega
        · rw [hi]
          obtain ⟨b2, o2, rfl, _, _, c2, _⟩ := HP4.out.at hp
          have hq : q < ps.length := (List.getElem?_eq_some_iff.1 hp).1
          obtain ⟨t, ht⟩ : ∃ t, t = p.mtch := ⟨_, rfl⟩
          rw [← ht] at c2
          have cg := HA4.out.arr.cell hlt
          have fg := HA4.out.arr.free k
          have HZ := Lib.hid (hmz.trans ht.symm)
          have HS := Lib.hid (HA4.out.arr.set t hlt)
          clear hi hmz hp ht
          go_wp2_with fail
          go_roundg (ms.length - (k + 1))
          case rel =>
            have hsz := HA4.out.arr.size
            refine ⟨k + 1, _, rfl, by omega, ⟨grown_trans1 HA4.out.ex (grown_set _ _ _ _), HS.out⟩, fun j hj => ?_, fun j hj hj2 => ?_⟩
            · by_cases hjk : j = k
              · subst hjk; rw [Sort.getElem!_set_same _ _ _ (by omega), ← HX.out, HZ.out]
              · rw [Sort.getElem!_set_other _ _ _ _ hjk]; exact HD1.out j (by omega)
            · rw [Sort.getElem!_set_other _ _ _ _ (by omega)]; exact HD2.out j (by omega) hj2
          case measure => omega
      · have hkn : k = ms.length := by omega
        subst hkn
        go_wp2_with fail
        refine (sort_c w.heap.size ms.length ms.length dk wr HA.out.arr ⟨Nat.le_refl _, by omega⟩).mono ?_
        rintro e w5 ⟨R, hS, rfl, hA5⟩
        have HA5 := Lib.hid (HA.out.trans hA5); have HS := Lib.hid hS
        clear hA5 hS
        have hagr := agr_of_sorted ms ps dk R HM.out H0.out HA.out.arr.size HD1.out HA5.out.arr.size HS.out
        have HAGR := Lib.hid hagr
        clear hagr
        go_wp2_with fail
        refine (maj_c _ ms w5 (H1.out.ext (HGE.out _ _ HA5.out))).mono ?_
        rintro e w6 ⟨rfl, rfl⟩
        have hmj : 1 ≤ majB ms ∧ majB ms ≤ ms.length := by unfold majB; omega
        obtain ⟨hmj1, hmj2⟩ := hmj
        obtain ⟨mj, hmj⟩ : ∃ mj, mj = majB ms := ⟨_, rfl⟩
        rw [← hmj] at hmj1 hmj2 HAGR ⊢
        have cr := HA5.out.arr.cell (t := ms.length - mj) (by omega)
        obtain ⟨r, hr⟩ : ∃ r, r = R[ms.length - mj]! := ⟨_, rfl⟩
        rw [← hr] at cr HAGR
        clear hmj hr
        go_wp2_with fail
        go_ret
        exact ⟨r, rfl, HAGR.out, HGE.out _ _ HA5.out⟩
end Go.Proofs.Ytgnkhpcnlffjnaa
