/- msg.walk over a writer. PRINTED BY gen/walkw.py -/
import Derived.Test.YtjodgbabfhcilaaWr2
set_option linter.unusedSimpArgs false
set_option linter.unusedVariables false
namespace Go.Proofs.Ytjodgbabfhcilaa
open Go Go.RowKit

def wNum (lo hi n : Int) : Option (List Int) := if lo ≤ n ∧ n ≤ hi then some (numB n.toNat) else none
def wYes (y : Bool) : Option (List Int) := some [if y then 1 else 0]
def wEnts (xs : List Ent) : Option (List Int) := if xs.length ≤ 4 ∧ xs.all formedB = true then some (numB xs.length ++ xs.flatMap rawE) else none
def wMems (xs : List Int) : Option (List Int) := if membersB xs then some (numB xs.length ++ xs.flatMap (fun m => numB m.toNat)) else none
def wImg (xs : List Int) : Option (List Int) := if xs.length ≤ 16384 then some (numB xs.length ++ xs) else none
/-- All of them, one behind the other, or none. -/
def seqO : List (Option (List Int)) → Option (List Int)
  | [] => some []
  | none :: _ => none
  | some a :: r => match seqO r with
    | none => none
    | some b => some (a ++ b)
def wRest (m : Msg) : List (Option (List Int)) :=
  if m.kind = 1 then [wNum 0 4611686018427387904 m.index, wNum 0 4611686018427387904 m.logTerm]
  else if m.kind = 2 then [wYes m.yes]
  else if m.kind = 3 then [wNum 0 4611686018427387904 m.index, wNum 0 4611686018427387904 m.logTerm, wNum 0 4611686018427387904 m.commit, wNum 0 18446744073709551615 m.stamp, wEnts m.entries]
  else if m.kind = 4 then [wYes m.yes, wNum 0 4611686018427387904 m.index, wNum 0 18446744073709551615 m.stamp]
  else if m.kind = 5 then [wNum 0 4611686018427387904 m.index, wNum 0 4611686018427387904 m.logTerm, wNum 0 18446744073709551615 m.stamp, wMems m.members, wImg m.image]
  else [none]
def wBody (m : Msg) : Option (List Int) := seqO (wNum 1 7 m.src :: wNum 1 7 m.dst :: wNum 1 4611686018427387904 m.term :: wRest m)
theorem wNum_len {lo hi n : Int} {ys : List Int} (h : wNum lo hi n = some ys) : ys.length ≤ 9 := by
  simp only [wNum] at h
  split at h
  · cases h; exact numB_len_le _
  · cases h
theorem wYes_len {y : Bool} {ys : List Int} (h : wYes y = some ys) : ys.length ≤ 9 := by
  simp only [wYes] at h; cases h; simp
theorem wMems_len {xs : List Int} {ys : List Int} (h : wMems xs = some ys) : ys.length ≤ 100 := by
  simp only [wMems] at h
  split at h
  · rename_i hm
    cases h
    have h1 := numB_len_le xs.length
    have h2 := flat_len xs
    rcases memGo_len xs 0 (by omega) hm with h3 | h3
    · simp only [List.length_append]; omega
    · subst h3; simp; have := numB_len_le 0; omega
  · cases h
theorem WS.ext {w w' : World} {B wb : Nat} {bs : List Int} (h : WS w B wb bs) (hE : Ext w w') : WS w' B wb bs := by
  obtain ⟨h1, h2, v, h3, h4⟩ := h
  exact ⟨h1, Nat.le_trans h2 hE.size, v, h3.ext hE, own_ext h4 hE⟩
/-- How a walk over a writer ends. -/
def WW (B wb : Nat) (bs : List Int) (X : Option (List Int)) (w : World) (en : Ending) (w' : World) : Prop :=
  Below B w w' ∧ match X with
  | none => ∃ no, en = thrown no
  | some ys => en = .returned (.tuple #[]) ∧ WS w' B wb (bs ++ ys)
theorem WW.err {B wb : Nat} {bs : List Int} {X : Option (List Int)} {no : Int} {w w' : World} (hX : X = none) (hB : Below B w w') : WW B wb bs X w (thrown no) w' := by
  subst hX; exact ⟨hB, no, rfl⟩
theorem WW.ok {B wb : Nat} {bs ys : List Int} {X : Option (List Int)} {en : Ending} {w w' : World} (hX : X = some ys) (he : en = .returned (.tuple #[])) (hB : Below B w w') (h : WS w' B wb (bs ++ ys)) : WW B wb bs X w en w' := by
  subst hX; exact ⟨hB, he, h⟩

theorem nilW_num (b : Nat) (w : World) : (nilAhead 247 77 (ptr b) "tabellion/msg.num").run Try.prog w = .ok (some false) w := by kernel_rfl
theorem metW_num (b : Nat) (w : World) : (method 231 77 (ptr b) "tabellion/msg.num").run Try.prog w = .ok (73, ptr b) w := by kernel_rfl
theorem nilW_yes (b : Nat) (w : World) : (nilAhead 247 77 (ptr b) "tabellion/msg.yes").run Try.prog w = .ok (some false) w := by kernel_rfl
theorem metW_yes (b : Nat) (w : World) : (method 231 77 (ptr b) "tabellion/msg.yes").run Try.prog w = .ok (74, ptr b) w := by kernel_rfl
theorem nilW_entries (b : Nat) (w : World) : (nilAhead 247 77 (ptr b) "tabellion/msg.entries").run Try.prog w = .ok (some false) w := by kernel_rfl
theorem metW_entries (b : Nat) (w : World) : (method 231 77 (ptr b) "tabellion/msg.entries").run Try.prog w = .ok (70, ptr b) w := by kernel_rfl
theorem nilW_members (b : Nat) (w : World) : (nilAhead 247 77 (ptr b) "tabellion/msg.members").run Try.prog w = .ok (some false) w := by kernel_rfl
theorem metW_members (b : Nat) (w : World) : (method 231 77 (ptr b) "tabellion/msg.members").run Try.prog w = .ok (72, ptr b) w := by kernel_rfl
theorem nilW_image (b : Nat) (w : World) : (nilAhead 247 77 (ptr b) "tabellion/msg.image").run Try.prog w = .ok (some false) w := by kernel_rfl
theorem metW_image (b : Nat) (w : World) : (method 231 77 (ptr b) "tabellion/msg.image").run Try.prog w = .ok (71, ptr b) w := by kernel_rfl

set_option maxRecDepth 100000 in
set_option maxHeartbeats 16000000 in
theorem walkW (M : Msg) (b9 b10 b11 : Option Addr) (n9 c9 n10 c10 n11 c11 : Nat) (B wb mb : Nat) (bs : List Int) (w : World) (hws : WS w B wb bs) (hmb : mb < B) (hm : Blk w mb (mCells M (.slice b9 n9 c9) (.slice b10 n10 c10) (.slice b11 n11 c11)) 34)
    (he : ∀ W, Below B w W → EntsV W 0 (.slice b9 n9 c9) M.entries) (hms : ∀ W, Below B w W → Rd W (.slice b10 n10 c10) (u64s M.members)) (hi : ∀ W, Below B w W → Rd W (.slice b11 n11 c11) (u8s M.image)) (hok : MsgOk M) (hl : bs.length ≤ 100) :
    Calls Try.prog 34 #[.iface 77 (ptr wb), ptr mb] w (WW B wb bs (wBody M) w) := by
  obtain ⟨X, hX⟩ : ∃ X, X = wBody M := ⟨_, rfl⟩
  rw [← hX]
  obtain ⟨k, f, t, m, i, l, c, s, y, xs, ms, d⟩ := M
  obtain ⟨hk0, hu1, hu2, hu3, hu4, hu5, hu6, hu7, oke, okm, oki⟩ := hok
  simp only [mCells] at hm
  try simp only at he hms hi hu1 hu2 hu3 hu4 hu5 hu6 hu7 oke okm oki
  have hmf : ∀ (fn : Fn) (first cap : Array Value) (w : World), (Instr.makeFunc fn first cap).run Try.prog w = .ok (.func fn first cap) w := fun _ _ _ _ => rfl
  have nr_num := nilW_num wb; have mr_num := metW_num wb
  have nr_yes := nilW_yes wb; have mr_yes := metW_yes wb
  have nr_entries := nilW_entries wb; have mr_entries := metW_entries wb
  have nr_members := nilW_members wb; have mr_members := metW_members wb
  have nr_image := nilW_image wb; have mr_image := metW_image wb
  have HX := Lib.hid hX; have HW1 := Lib.hid hws; have HM := Lib.hid hm; have HB1 := Lib.hid (Below.refl B w); have HE := Lib.hid he; have HMS := Lib.hid hms; have HI := Lib.hid hi; have OKE := Lib.hid oke; have OKM := Lib.hid okm; have OKI := Lib.hid oki
  clear hX hws hm he hms hi oke okm oki hk0
  go_enter Try.func34, Try.ntmps34
  go_wp2_with fail
  apply Mono.region1 7 Ext [.is _, .is _, .is _, .is _, .is _, .is _, .is _] (by kernel_rfl) Ext.refl (fun _ _ _ => Ext.trans) (by kernel_rfl) rfl rfl trivial
  focus
    iterate 7 (apply Mono.step_is; (· refine Mono.obl_mk fun w3 hE3 _ K hK => ?_; go_wp2_with fail; simp only [Act.put, List.setIfInBounds_toArray, List.set_cons_succ, List.set_cons_zero] at hK; exact hK _ _ (Ext.refl _) (Mono.is_rfl _ _)); simp only [Act.put, List.setIfInBounds_toArray, List.set_cons_succ, List.set_cons_zero])
    refine Mono.step_end fun v1 hE _ => ?_
    simp only [List.drop_succ_cons, List.drop_zero]
    replace hE := (Ext.drew _).trans hE
    have JW1 := Lib.hid (HW1.out.ext hE); have JB1 := Lib.hid (HB1.out.trans (Below.mono hE HW1.out.2.1))
    have hc := (HM.out.below JB1.out hmb).cell 1 rfl
    clear hE
    go_wp2_with fail
    refine (wnumM B wb mb 1 f 1 7 hu1 _ v1 JW1.out hmb hc (by (try simp only [List.length_append]); omega)).mono ?_
    rintro en w2 ⟨hC, hm⟩
    have HB2 := Lib.hid (JB1.out.trans hC)
    clear hC hc
    rw [show (if 1 ≤ f ∧ f ≤ 7 then some (numB f.toNat) else none) = wNum 1 7 f from rfl] at hm
    rcases hY : wNum 1 7 f with _ | a1
    · rw [hY] at hm
      obtain rfl := hm
      have HZ : Hid (X = none) := Lib.hid (by rw [HX.out]; simp [wBody, wRest, seqO, hY])
      clear hY
      go_wp2_with fail
      exact ⟨rfl, WW.err HZ.out HB2.out⟩
    rw [hY] at hm
    obtain ⟨rfl, hw⟩ := hm
    have HW2 := Lib.hid hw; have HY1 := Lib.hid hY
    have hl1 := wNum_len hY
    clear hw hY
    go_wp2_with fail
    apply Mono.region1 7 Ext [.is _, .is _, .is _, .is _, .is _, .is _, .is _] (by kernel_rfl) Ext.refl (fun _ _ _ => Ext.trans) (by kernel_rfl) rfl rfl trivial
    focus
      iterate 7 (apply Mono.step_is; (· refine Mono.obl_mk fun w3 hE3 _ K hK => ?_; go_wp2_with fail; simp only [Act.put, List.setIfInBounds_toArray, List.set_cons_succ, List.set_cons_zero] at hK; exact hK _ _ (Ext.refl _) (Mono.is_rfl _ _)); simp only [Act.put, List.setIfInBounds_toArray, List.set_cons_succ, List.set_cons_zero])
      refine Mono.step_end fun v2 hE _ => ?_
      simp only [List.drop_succ_cons, List.drop_zero]
      replace hE := (Ext.drew _).trans hE
      have JW2 := Lib.hid (HW2.out.ext hE); have JB2 := Lib.hid (HB2.out.trans (Below.mono hE HW2.out.2.1))
      have hc := (HM.out.below JB2.out hmb).cell 2 rfl
      clear hE
      go_wp2_with fail
      refine (wnumM B wb mb 2 t 1 7 hu2 _ v2 JW2.out hmb hc (by (try simp only [List.length_append]); omega)).mono ?_
      rintro en w3 ⟨hC, hm⟩
      have HB3 := Lib.hid (JB2.out.trans hC)
      clear hC hc
      rw [show (if 1 ≤ t ∧ t ≤ 7 then some (numB t.toNat) else none) = wNum 1 7 t from rfl] at hm
      rcases hY : wNum 1 7 t with _ | a2
      · rw [hY] at hm
        obtain rfl := hm
        have HZ : Hid (X = none) := Lib.hid (by rw [HX.out]; simp [wBody, wRest, seqO, HY1.out, hY])
        clear hY
        go_wp2_with fail
        exact ⟨rfl, WW.err HZ.out HB3.out⟩
      rw [hY] at hm
      obtain ⟨rfl, hw⟩ := hm
      have HW3 := Lib.hid hw; have HY2 := Lib.hid hY
      have hl2 := wNum_len hY
      clear hw hY
      go_wp2_with fail
      apply Mono.region1 7 Ext [.is _, .is _, .is _, .is _, .is _, .is _, .is _] (by kernel_rfl) Ext.refl (fun _ _ _ => Ext.trans) (by kernel_rfl) rfl rfl trivial
      focus
        iterate 7 (apply Mono.step_is; (· refine Mono.obl_mk fun w3 hE3 _ K hK => ?_; go_wp2_with fail; simp only [Act.put, List.setIfInBounds_toArray, List.set_cons_succ, List.set_cons_zero] at hK; exact hK _ _ (Ext.refl _) (Mono.is_rfl _ _)); simp only [Act.put, List.setIfInBounds_toArray, List.set_cons_succ, List.set_cons_zero])
        refine Mono.step_end fun v3 hE _ => ?_
        simp only [List.drop_succ_cons, List.drop_zero]
        replace hE := (Ext.drew _).trans hE
        have JW3 := Lib.hid (HW3.out.ext hE); have JB3 := Lib.hid (HB3.out.trans (Below.mono hE HW3.out.2.1))
        have hc := (HM.out.below JB3.out hmb).cell 3 rfl
        clear hE
        go_wp2_with fail
        refine (wnumM B wb mb 3 m 1 4611686018427387904 hu3 _ v3 JW3.out hmb hc (by (try simp only [List.length_append]); omega)).mono ?_
        rintro en w4 ⟨hC, hm⟩
        have HB4 := Lib.hid (JB3.out.trans hC)
        clear hC hc
        rw [show (if 1 ≤ m ∧ m ≤ 4611686018427387904 then some (numB m.toNat) else none) = wNum 1 4611686018427387904 m from rfl] at hm
        rcases hY : wNum 1 4611686018427387904 m with _ | a3
        · rw [hY] at hm
          obtain rfl := hm
          have HZ : Hid (X = none) := Lib.hid (by rw [HX.out]; simp [wBody, wRest, seqO, HY1.out, HY2.out, hY])
          clear hY
          go_wp2_with fail
          exact ⟨rfl, WW.err HZ.out HB4.out⟩
        rw [hY] at hm
        obtain ⟨rfl, hw⟩ := hm
        have HW4 := Lib.hid hw; have HY3 := Lib.hid hY
        have hl3 := wNum_len hY
        clear hw hY
        have ck := (HM.out.below HB4.out hmb).cell 0 rfl
        by_cases hk1 : k = 1
        · subst hk1
          go_wp2_with fail
          clear ck
          apply Mono.region1 7 Ext [.is _, .is _, .is _, .is _, .is _, .is _, .is _] (by kernel_rfl) Ext.refl (fun _ _ _ => Ext.trans) (by kernel_rfl) rfl rfl trivial
          focus
            iterate 7 (apply Mono.step_is; (· refine Mono.obl_mk fun w3 hE3 _ K hK => ?_; go_wp2_with fail; simp only [Act.put, List.setIfInBounds_toArray, List.set_cons_succ, List.set_cons_zero] at hK; exact hK _ _ (Ext.refl _) (Mono.is_rfl _ _)); simp only [Act.put, List.setIfInBounds_toArray, List.set_cons_succ, List.set_cons_zero])
            refine Mono.step_end fun v4 hE _ => ?_
            simp only [List.drop_succ_cons, List.drop_zero]
            replace hE := (Ext.drew _).trans hE
            have JW4 := Lib.hid (HW4.out.ext hE); have JB4 := Lib.hid (HB4.out.trans (Below.mono hE HW4.out.2.1))
            have hc := (HM.out.below JB4.out hmb).cell 4 rfl
            clear hE
            go_wp2_with fail
            refine (wnumM B wb mb 4 i 0 4611686018427387904 hu4 _ v4 JW4.out hmb hc (by (try simp only [List.length_append]); omega)).mono ?_
            rintro en w5 ⟨hC, hm⟩
            have HB5 := Lib.hid (JB4.out.trans hC)
            clear hC hc
            rw [show (if 0 ≤ i ∧ i ≤ 4611686018427387904 then some (numB i.toNat) else none) = wNum 0 4611686018427387904 i from rfl] at hm
            rcases hY : wNum 0 4611686018427387904 i with _ | a4
            · rw [hY] at hm
              obtain rfl := hm
              have HZ : Hid (X = none) := Lib.hid (by rw [HX.out]; simp [wBody, wRest, seqO, HY1.out, HY2.out, HY3.out, hY])
              clear hY
              go_wp2_with fail
              exact ⟨rfl, WW.err HZ.out HB5.out⟩
            rw [hY] at hm
            obtain ⟨rfl, hw⟩ := hm
            have HW5 := Lib.hid hw; have HY4 := Lib.hid hY
            have hl4 := wNum_len hY
            clear hw hY
            go_wp2_with fail
            apply Mono.region1 7 Ext [.is _, .is _, .is _, .is _, .is _, .is _, .is _] (by kernel_rfl) Ext.refl (fun _ _ _ => Ext.trans) (by kernel_rfl) rfl rfl trivial
            focus
              iterate 7 (apply Mono.step_is; (· refine Mono.obl_mk fun w3 hE3 _ K hK => ?_; go_wp2_with fail; simp only [Act.put, List.setIfInBounds_toArray, List.set_cons_succ, List.set_cons_zero] at hK; exact hK _ _ (Ext.refl _) (Mono.is_rfl _ _)); simp only [Act.put, List.setIfInBounds_toArray, List.set_cons_succ, List.set_cons_zero])
              refine Mono.step_end fun v5 hE _ => ?_
              simp only [List.drop_succ_cons, List.drop_zero]
              replace hE := (Ext.drew _).trans hE
              have JW5 := Lib.hid (HW5.out.ext hE); have JB5 := Lib.hid (HB5.out.trans (Below.mono hE HW5.out.2.1))
              have hc := (HM.out.below JB5.out hmb).cell 5 rfl
              clear hE
              go_wp2_with fail
              refine (wnumM B wb mb 5 l 0 4611686018427387904 hu5 _ v5 JW5.out hmb hc (by (try simp only [List.length_append]); omega)).mono ?_
              rintro en w6 ⟨hC, hm⟩
              have HB6 := Lib.hid (JB5.out.trans hC)
              clear hC hc
              rw [show (if 0 ≤ l ∧ l ≤ 4611686018427387904 then some (numB l.toNat) else none) = wNum 0 4611686018427387904 l from rfl] at hm
              rcases hY : wNum 0 4611686018427387904 l with _ | a5
              · rw [hY] at hm
                obtain rfl := hm
                have HZ : Hid (X = none) := Lib.hid (by rw [HX.out]; simp [wBody, wRest, seqO, HY1.out, HY2.out, HY3.out, HY4.out, hY])
                clear hY
                go_wp2_with fail
                exact ⟨rfl, WW.err HZ.out HB6.out⟩
              rw [hY] at hm
              obtain ⟨rfl, hw⟩ := hm
              have HW6 := Lib.hid hw; have HY5 := Lib.hid hY
              have hl5 := wNum_len hY
              clear hw hY
              go_wp2_with fail
              have HZ : Hid (X = some (a1 ++ (a2 ++ (a3 ++ (a4 ++ (a5)))))) := Lib.hid (by rw [HX.out]; simp [wBody, wRest, seqO, HY1.out, HY2.out, HY3.out, HY4.out, HY5.out])
              go_end0
              exact WW.ok HZ.out rfl HB6.out (by have h := HW6.out; simpa only [List.append_assoc] using h)
        by_cases hk2 : k = 2
        · subst hk2
          go_wp2_with fail
          clear ck
          apply Mono.region1 7 Ext [.is _, .is _, .is _, .is _, .is _, .is _, .is _] (by kernel_rfl) Ext.refl (fun _ _ _ => Ext.trans) (by kernel_rfl) rfl rfl trivial
          focus
            iterate 7 (apply Mono.step_is; (· refine Mono.obl_mk fun w3 hE3 _ K hK => ?_; go_wp2_with fail; simp only [Act.put, List.setIfInBounds_toArray, List.set_cons_succ, List.set_cons_zero] at hK; exact hK _ _ (Ext.refl _) (Mono.is_rfl _ _)); simp only [Act.put, List.setIfInBounds_toArray, List.set_cons_succ, List.set_cons_zero])
            refine Mono.step_end fun v4 hE _ => ?_
            simp only [List.drop_succ_cons, List.drop_zero]
            replace hE := (Ext.drew _).trans hE
            have JW4 := Lib.hid (HW4.out.ext hE); have JB4 := Lib.hid (HB4.out.trans (Below.mono hE HW4.out.2.1))
            have hc := (HM.out.below JB4.out hmb).cell 8 rfl
            clear hE
            go_wp2_with fail
            refine (wyesM B wb mb 8 y _ v4 JW4.out hmb hc (by (try simp only [List.length_append]); omega)).mono ?_
            rintro en w5 ⟨hC, hm⟩
            have HB5 := Lib.hid (JB4.out.trans hC)
            clear hC hc
            rw [show (some [if y then 1 else 0]) = wYes y from rfl] at hm
            rcases hY : wYes y with _ | a4
            · rw [hY] at hm
              obtain rfl := hm
              have HZ : Hid (X = none) := Lib.hid (by rw [HX.out]; simp [wBody, wRest, seqO, HY1.out, HY2.out, HY3.out, hY])
              clear hY
              go_wp2_with fail
              exact ⟨rfl, WW.err HZ.out HB5.out⟩
            rw [hY] at hm
            obtain ⟨rfl, hw⟩ := hm
            have HW5 := Lib.hid hw; have HY8 := Lib.hid hY
            have hl4 := wYes_len hY
            clear hw hY
            go_wp2_with fail
            have HZ : Hid (X = some (a1 ++ (a2 ++ (a3 ++ (a4))))) := Lib.hid (by rw [HX.out]; simp [wBody, wRest, seqO, HY1.out, HY2.out, HY3.out, HY8.out])
            go_end0
            exact WW.ok HZ.out rfl HB5.out (by have h := HW5.out; simpa only [List.append_assoc] using h)
        by_cases hk3 : k = 3
        · subst hk3
          go_wp2_with fail
          clear ck
          apply Mono.region1 7 Ext [.is _, .is _, .is _, .is _, .is _, .is _, .is _] (by kernel_rfl) Ext.refl (fun _ _ _ => Ext.trans) (by kernel_rfl) rfl rfl trivial
          focus
            iterate 7 (apply Mono.step_is; (· refine Mono.obl_mk fun w3 hE3 _ K hK => ?_; go_wp2_with fail; simp only [Act.put, List.setIfInBounds_toArray, List.set_cons_succ, List.set_cons_zero] at hK; exact hK _ _ (Ext.refl _) (Mono.is_rfl _ _)); simp only [Act.put, List.setIfInBounds_toArray, List.set_cons_succ, List.set_cons_zero])
            refine Mono.step_end fun v4 hE _ => ?_
            simp only [List.drop_succ_cons, List.drop_zero]
            replace hE := (Ext.drew _).trans hE
            have JW4 := Lib.hid (HW4.out.ext hE); have JB4 := Lib.hid (HB4.out.trans (Below.mono hE HW4.out.2.1))
            have hc := (HM.out.below JB4.out hmb).cell 4 rfl
            clear hE
            go_wp2_with fail
            refine (wnumM B wb mb 4 i 0 4611686018427387904 hu4 _ v4 JW4.out hmb hc (by (try simp only [List.length_append]); omega)).mono ?_
            rintro en w5 ⟨hC, hm⟩
            have HB5 := Lib.hid (JB4.out.trans hC)
            clear hC hc
            rw [show (if 0 ≤ i ∧ i ≤ 4611686018427387904 then some (numB i.toNat) else none) = wNum 0 4611686018427387904 i from rfl] at hm
            rcases hY : wNum 0 4611686018427387904 i with _ | a4
            · rw [hY] at hm
              obtain rfl := hm
              have HZ : Hid (X = none) := Lib.hid (by rw [HX.out]; simp [wBody, wRest, seqO, HY1.out, HY2.out, HY3.out, hY])
              clear hY
              go_wp2_with fail
              exact ⟨rfl, WW.err HZ.out HB5.out⟩
            rw [hY] at hm
            obtain ⟨rfl, hw⟩ := hm
            have HW5 := Lib.hid hw; have HY4 := Lib.hid hY
            have hl4 := wNum_len hY
            clear hw hY
            go_wp2_with fail
            apply Mono.region1 7 Ext [.is _, .is _, .is _, .is _, .is _, .is _, .is _] (by kernel_rfl) Ext.refl (fun _ _ _ => Ext.trans) (by kernel_rfl) rfl rfl trivial
            focus
              iterate 7 (apply Mono.step_is; (· refine Mono.obl_mk fun w3 hE3 _ K hK => ?_; go_wp2_with fail; simp only [Act.put, List.setIfInBounds_toArray, List.set_cons_succ, List.set_cons_zero] at hK; exact hK _ _ (Ext.refl _) (Mono.is_rfl _ _)); simp only [Act.put, List.setIfInBounds_toArray, List.set_cons_succ, List.set_cons_zero])
              refine Mono.step_end fun v5 hE _ => ?_
              simp only [List.drop_succ_cons, List.drop_zero]
              replace hE := (Ext.drew _).trans hE
              have JW5 := Lib.hid (HW5.out.ext hE); have JB5 := Lib.hid (HB5.out.trans (Below.mono hE HW5.out.2.1))
              have hc := (HM.out.below JB5.out hmb).cell 5 rfl
              clear hE
              go_wp2_with fail
              refine (wnumM B wb mb 5 l 0 4611686018427387904 hu5 _ v5 JW5.out hmb hc (by (try simp only [List.length_append]); omega)).mono ?_
              rintro en w6 ⟨hC, hm⟩
              have HB6 := Lib.hid (JB5.out.trans hC)
              clear hC hc
              rw [show (if 0 ≤ l ∧ l ≤ 4611686018427387904 then some (numB l.toNat) else none) = wNum 0 4611686018427387904 l from rfl] at hm
              rcases hY : wNum 0 4611686018427387904 l with _ | a5
              · rw [hY] at hm
                obtain rfl := hm
                have HZ : Hid (X = none) := Lib.hid (by rw [HX.out]; simp [wBody, wRest, seqO, HY1.out, HY2.out, HY3.out, HY4.out, hY])
                clear hY
                go_wp2_with fail
                exact ⟨rfl, WW.err HZ.out HB6.out⟩
              rw [hY] at hm
              obtain ⟨rfl, hw⟩ := hm
              have HW6 := Lib.hid hw; have HY5 := Lib.hid hY
              have hl5 := wNum_len hY
              clear hw hY
              go_wp2_with fail
              apply Mono.region1 7 Ext [.is _, .is _, .is _, .is _, .is _, .is _, .is _] (by kernel_rfl) Ext.refl (fun _ _ _ => Ext.trans) (by kernel_rfl) rfl rfl trivial
              focus
                iterate 7 (apply Mono.step_is; (· refine Mono.obl_mk fun w3 hE3 _ K hK => ?_; go_wp2_with fail; simp only [Act.put, List.setIfInBounds_toArray, List.set_cons_succ, List.set_cons_zero] at hK; exact hK _ _ (Ext.refl _) (Mono.is_rfl _ _)); simp only [Act.put, List.setIfInBounds_toArray, List.set_cons_succ, List.set_cons_zero])
                refine Mono.step_end fun v6 hE _ => ?_
                simp only [List.drop_succ_cons, List.drop_zero]
                replace hE := (Ext.drew _).trans hE
                have JW6 := Lib.hid (HW6.out.ext hE); have JB6 := Lib.hid (HB6.out.trans (Below.mono hE HW6.out.2.1))
                have hc := (HM.out.below JB6.out hmb).cell 6 rfl
                clear hE
                go_wp2_with fail
                refine (wnumM B wb mb 6 c 0 4611686018427387904 hu6 _ v6 JW6.out hmb hc (by (try simp only [List.length_append]); omega)).mono ?_
                rintro en w7 ⟨hC, hm⟩
                have HB7 := Lib.hid (JB6.out.trans hC)
                clear hC hc
                rw [show (if 0 ≤ c ∧ c ≤ 4611686018427387904 then some (numB c.toNat) else none) = wNum 0 4611686018427387904 c from rfl] at hm
                rcases hY : wNum 0 4611686018427387904 c with _ | a6
                · rw [hY] at hm
                  obtain rfl := hm
                  have HZ : Hid (X = none) := Lib.hid (by rw [HX.out]; simp [wBody, wRest, seqO, HY1.out, HY2.out, HY3.out, HY4.out, HY5.out, hY])
                  clear hY
                  go_wp2_with fail
                  exact ⟨rfl, WW.err HZ.out HB7.out⟩
                rw [hY] at hm
                obtain ⟨rfl, hw⟩ := hm
                have HW7 := Lib.hid hw; have HY6 := Lib.hid hY
                have hl6 := wNum_len hY
                clear hw hY
                go_wp2_with fail
                apply Mono.region1 7 Ext [.is _, .is _, .is _, .is _, .is _, .is _, .is _] (by kernel_rfl) Ext.refl (fun _ _ _ => Ext.trans) (by kernel_rfl) rfl rfl trivial
                focus
                  iterate 7 (apply Mono.step_is; (· refine Mono.obl_mk fun w3 hE3 _ K hK => ?_; go_wp2_with fail; simp only [Act.put, List.setIfInBounds_toArray, List.set_cons_succ, List.set_cons_zero] at hK; exact hK _ _ (Ext.refl _) (Mono.is_rfl _ _)); simp only [Act.put, List.setIfInBounds_toArray, List.set_cons_succ, List.set_cons_zero])
                  refine Mono.step_end fun v7 hE _ => ?_
                  simp only [List.drop_succ_cons, List.drop_zero]
                  replace hE := (Ext.drew _).trans hE
                  have JW7 := Lib.hid (HW7.out.ext hE); have JB7 := Lib.hid (HB7.out.trans (Below.mono hE HW7.out.2.1))
                  have hc := (HM.out.below JB7.out hmb).cell 7 rfl
                  clear hE
                  go_wp2_with fail
                  refine (wnumM B wb mb 7 s 0 18446744073709551615 hu7 _ v7 JW7.out hmb hc (by (try simp only [List.length_append]); omega)).mono ?_
                  rintro en w8 ⟨hC, hm⟩
                  have HB8 := Lib.hid (JB7.out.trans hC)
                  clear hC hc
                  rw [show (if 0 ≤ s ∧ s ≤ 18446744073709551615 then some (numB s.toNat) else none) = wNum 0 18446744073709551615 s from rfl] at hm
                  rcases hY : wNum 0 18446744073709551615 s with _ | a7
                  · rw [hY] at hm
                    obtain rfl := hm
                    have HZ : Hid (X = none) := Lib.hid (by rw [HX.out]; simp [wBody, wRest, seqO, HY1.out, HY2.out, HY3.out, HY4.out, HY5.out, HY6.out, hY])
                    clear hY
                    go_wp2_with fail
                    exact ⟨rfl, WW.err HZ.out HB8.out⟩
                  rw [hY] at hm
                  obtain ⟨rfl, hw⟩ := hm
                  have HW8 := Lib.hid hw; have HY7 := Lib.hid hY
                  have hl7 := wNum_len hY
                  clear hw hY
                  go_wp2_with fail
                  apply Mono.region1 7 Ext [.is _, .is _, .is _, .is _, .is _, .is _, .is _] (by kernel_rfl) Ext.refl (fun _ _ _ => Ext.trans) (by kernel_rfl) rfl rfl trivial
                  focus
                    iterate 7 (apply Mono.step_is; (· refine Mono.obl_mk fun w3 hE3 _ K hK => ?_; go_wp2_with fail; simp only [Act.put, List.setIfInBounds_toArray, List.set_cons_succ, List.set_cons_zero] at hK; exact hK _ _ (Ext.refl _) (Mono.is_rfl _ _)); simp only [Act.put, List.setIfInBounds_toArray, List.set_cons_succ, List.set_cons_zero])
                    refine Mono.step_end fun v8 hE _ => ?_
                    simp only [List.drop_succ_cons, List.drop_zero]
                    replace hE := (Ext.drew _).trans hE
                    have JW8 := Lib.hid (HW8.out.ext hE); have JB8 := Lib.hid (HB8.out.trans (Below.mono hE HW8.out.2.1))
                    have hc := (HM.out.below JB8.out hmb).cell 9 rfl
                    clear hE
                    go_wp2_with fail
                    refine (wentM B wb mb 9 xs b9 n9 c9 _ v8 JW8.out hmb hc (fun W hW => HE.out W (JB8.out.trans hW)) OKE.out (by (try simp only [List.length_append]); omega)).mono ?_
                    rintro en w9 ⟨hC, hm⟩
                    have HB9 := Lib.hid (JB8.out.trans hC)
                    clear hC hc
                    rw [show (if xs.length ≤ 4 ∧ xs.all formedB = true then some (numB xs.length ++ xs.flatMap rawE) else none) = wEnts xs from rfl] at hm
                    rcases hY : wEnts xs with _ | a8
                    · rw [hY] at hm
                      obtain rfl := hm
                      have HZ : Hid (X = none) := Lib.hid (by rw [HX.out]; simp [wBody, wRest, seqO, HY1.out, HY2.out, HY3.out, HY4.out, HY5.out, HY6.out, HY7.out, hY])
                      clear hY
                      go_wp2_with fail
                      exact ⟨rfl, WW.err HZ.out HB9.out⟩
                    rw [hY] at hm
                    obtain ⟨rfl, hw⟩ := hm
                    have HW9 := Lib.hid hw; have HY9 := Lib.hid hY
                    clear hw hY
                    go_wp2_with fail
                    have HZ : Hid (X = some (a1 ++ (a2 ++ (a3 ++ (a4 ++ (a5 ++ (a6 ++ (a7 ++ (a8))))))))) := Lib.hid (by rw [HX.out]; simp [wBody, wRest, seqO, HY1.out, HY2.out, HY3.out, HY4.out, HY5.out, HY6.out, HY7.out, HY9.out])
                    go_end0
                    exact WW.ok HZ.out rfl HB9.out (by have h := HW9.out; simpa only [List.append_assoc] using h)
        by_cases hk4 : k = 4
        · subst hk4
          go_wp2_with fail
          clear ck
          apply Mono.region1 7 Ext [.is _, .is _, .is _, .is _, .is _, .is _, .is _] (by kernel_rfl) Ext.refl (fun _ _ _ => Ext.trans) (by kernel_rfl) rfl rfl trivial
          focus
            iterate 7 (apply Mono.step_is; (· refine Mono.obl_mk fun w3 hE3 _ K hK => ?_; go_wp2_with fail; simp only [Act.put, List.setIfInBounds_toArray, List.set_cons_succ, List.set_cons_zero] at hK; exact hK _ _ (Ext.refl _) (Mono.is_rfl _ _)); simp only [Act.put, List.setIfInBounds_toArray, List.set_cons_succ, List.set_cons_zero])
            refine Mono.step_end fun v4 hE _ => ?_
            simp only [List.drop_succ_cons, List.drop_zero]
            replace hE := (Ext.drew _).trans hE
            have JW4 := Lib.hid (HW4.out.ext hE); have JB4 := Lib.hid (HB4.out.trans (Below.mono hE HW4.out.2.1))
            have hc := (HM.out.below JB4.out hmb).cell 8 rfl
            clear hE
            go_wp2_with fail
            refine (wyesM B wb mb 8 y _ v4 JW4.out hmb hc (by (try simp only [List.length_append]); omega)).mono ?_
            rintro en w5 ⟨hC, hm⟩
            have HB5 := Lib.hid (JB4.out.trans hC)
            clear hC hc
            rw [show (some [if y then 1 else 0]) = wYes y from rfl] at hm
            rcases hY : wYes y with _ | a4
            · rw [hY] at hm
              obtain rfl := hm
              have HZ : Hid (X = none) := Lib.hid (by rw [HX.out]; simp [wBody, wRest, seqO, HY1.out, HY2.out, HY3.out, hY])
              clear hY
              go_wp2_with fail
              exact ⟨rfl, WW.err HZ.out HB5.out⟩
            rw [hY] at hm
            obtain ⟨rfl, hw⟩ := hm
            have HW5 := Lib.hid hw; have HY8 := Lib.hid hY
            have hl4 := wYes_len hY
            clear hw hY
            go_wp2_with fail
            apply Mono.region1 7 Ext [.is _, .is _, .is _, .is _, .is _, .is _, .is _] (by kernel_rfl) Ext.refl (fun _ _ _ => Ext.trans) (by kernel_rfl) rfl rfl trivial
            focus
              iterate 7 (apply Mono.step_is; (· refine Mono.obl_mk fun w3 hE3 _ K hK => ?_; go_wp2_with fail; simp only [Act.put, List.setIfInBounds_toArray, List.set_cons_succ, List.set_cons_zero] at hK; exact hK _ _ (Ext.refl _) (Mono.is_rfl _ _)); simp only [Act.put, List.setIfInBounds_toArray, List.set_cons_succ, List.set_cons_zero])
              refine Mono.step_end fun v5 hE _ => ?_
              simp only [List.drop_succ_cons, List.drop_zero]
              replace hE := (Ext.drew _).trans hE
              have JW5 := Lib.hid (HW5.out.ext hE); have JB5 := Lib.hid (HB5.out.trans (Below.mono hE HW5.out.2.1))
              have hc := (HM.out.below JB5.out hmb).cell 4 rfl
              clear hE
              go_wp2_with fail
              refine (wnumM B wb mb 4 i 0 4611686018427387904 hu4 _ v5 JW5.out hmb hc (by (try simp only [List.length_append]); omega)).mono ?_
              rintro en w6 ⟨hC, hm⟩
              have HB6 := Lib.hid (JB5.out.trans hC)
              clear hC hc
              rw [show (if 0 ≤ i ∧ i ≤ 4611686018427387904 then some (numB i.toNat) else none) = wNum 0 4611686018427387904 i from rfl] at hm
              rcases hY : wNum 0 4611686018427387904 i with _ | a5
              · rw [hY] at hm
                obtain rfl := hm
                have HZ : Hid (X = none) := Lib.hid (by rw [HX.out]; simp [wBody, wRest, seqO, HY1.out, HY2.out, HY3.out, HY8.out, hY])
                clear hY
                go_wp2_with fail
                exact ⟨rfl, WW.err HZ.out HB6.out⟩
              rw [hY] at hm
              obtain ⟨rfl, hw⟩ := hm
              have HW6 := Lib.hid hw; have HY4 := Lib.hid hY
              have hl5 := wNum_len hY
              clear hw hY
              go_wp2_with fail
              apply Mono.region1 7 Ext [.is _, .is _, .is _, .is _, .is _, .is _, .is _] (by kernel_rfl) Ext.refl (fun _ _ _ => Ext.trans) (by kernel_rfl) rfl rfl trivial
              focus
                iterate 7 (apply Mono.step_is; (· refine Mono.obl_mk fun w3 hE3 _ K hK => ?_; go_wp2_with fail; simp only [Act.put, List.setIfInBounds_toArray, List.set_cons_succ, List.set_cons_zero] at hK; exact hK _ _ (Ext.refl _) (Mono.is_rfl _ _)); simp only [Act.put, List.setIfInBounds_toArray, List.set_cons_succ, List.set_cons_zero])
                refine Mono.step_end fun v6 hE _ => ?_
                simp only [List.drop_succ_cons, List.drop_zero]
                replace hE := (Ext.drew _).trans hE
                have JW6 := Lib.hid (HW6.out.ext hE); have JB6 := Lib.hid (HB6.out.trans (Below.mono hE HW6.out.2.1))
                have hc := (HM.out.below JB6.out hmb).cell 7 rfl
                clear hE
                go_wp2_with fail
                refine (wnumM B wb mb 7 s 0 18446744073709551615 hu7 _ v6 JW6.out hmb hc (by (try simp only [List.length_append]); omega)).mono ?_
                rintro en w7 ⟨hC, hm⟩
                have HB7 := Lib.hid (JB6.out.trans hC)
                clear hC hc
                rw [show (if 0 ≤ s ∧ s ≤ 18446744073709551615 then some (numB s.toNat) else none) = wNum 0 18446744073709551615 s from rfl] at hm
                rcases hY : wNum 0 18446744073709551615 s with _ | a6
                · rw [hY] at hm
                  obtain rfl := hm
                  have HZ : Hid (X = none) := Lib.hid (by rw [HX.out]; simp [wBody, wRest, seqO, HY1.out, HY2.out, HY3.out, HY8.out, HY4.out, hY])
                  clear hY
                  go_wp2_with fail
                  exact ⟨rfl, WW.err HZ.out HB7.out⟩
                rw [hY] at hm
                obtain ⟨rfl, hw⟩ := hm
                have HW7 := Lib.hid hw; have HY7 := Lib.hid hY
                have hl6 := wNum_len hY
                clear hw hY
                go_wp2_with fail
                have HZ : Hid (X = some (a1 ++ (a2 ++ (a3 ++ (a4 ++ (a5 ++ (a6))))))) := Lib.hid (by rw [HX.out]; simp [wBody, wRest, seqO, HY1.out, HY2.out, HY3.out, HY8.out, HY4.out, HY7.out])
                go_end0
                exact WW.ok HZ.out rfl HB7.out (by have h := HW7.out; simpa only [List.append_assoc] using h)
        by_cases hk5 : k = 5
        · subst hk5
          go_wp2_with fail
          clear ck
          apply Mono.region1 7 Ext [.is _, .is _, .is _, .is _, .is _, .is _, .is _] (by kernel_rfl) Ext.refl (fun _ _ _ => Ext.trans) (by kernel_rfl) rfl rfl trivial
          focus
            iterate 7 (apply Mono.step_is; (· refine Mono.obl_mk fun w3 hE3 _ K hK => ?_; go_wp2_with fail; simp only [Act.put, List.setIfInBounds_toArray, List.set_cons_succ, List.set_cons_zero] at hK; exact hK _ _ (Ext.refl _) (Mono.is_rfl _ _)); simp only [Act.put, List.setIfInBounds_toArray, List.set_cons_succ, List.set_cons_zero])
            refine Mono.step_end fun v4 hE _ => ?_
            simp only [List.drop_succ_cons, List.drop_zero]
            replace hE := (Ext.drew _).trans hE
            have JW4 := Lib.hid (HW4.out.ext hE); have JB4 := Lib.hid (HB4.out.trans (Below.mono hE HW4.out.2.1))
            have hc := (HM.out.below JB4.out hmb).cell 4 rfl
            clear hE
            go_wp2_with fail
            refine (wnumM B wb mb 4 i 0 4611686018427387904 hu4 _ v4 JW4.out hmb hc (by (try simp only [List.length_append]); omega)).mono ?_
            rintro en w5 ⟨hC, hm⟩
            have HB5 := Lib.hid (JB4.out.trans hC)
            clear hC hc
            rw [show (if 0 ≤ i ∧ i ≤ 4611686018427387904 then some (numB i.toNat) else none) = wNum 0 4611686018427387904 i from rfl] at hm
            rcases hY : wNum 0 4611686018427387904 i with _ | a4
            · rw [hY] at hm
              obtain rfl := hm
              have HZ : Hid (X = none) := Lib.hid (by rw [HX.out]; simp [wBody, wRest, seqO, HY1.out, HY2.out, HY3.out, hY])
              clear hY
              go_wp2_with fail
              exact ⟨rfl, WW.err HZ.out HB5.out⟩
            rw [hY] at hm
            obtain ⟨rfl, hw⟩ := hm
            have HW5 := Lib.hid hw; have HY4 := Lib.hid hY
            have hl4 := wNum_len hY
            clear hw hY
            go_wp2_with fail
            apply Mono.region1 7 Ext [.is _, .is _, .is _, .is _, .is _, .is _, .is _] (by kernel_rfl) Ext.refl (fun _ _ _ => Ext.trans) (by kernel_rfl) rfl rfl trivial
            focus
              iterate 7 (apply Mono.step_is; (· refine Mono.obl_mk fun w3 hE3 _ K hK => ?_; go_wp2_with fail; simp only [Act.put, List.setIfInBounds_toArray, List.set_cons_succ, List.set_cons_zero] at hK; exact hK _ _ (Ext.refl _) (Mono.is_rfl _ _)); simp only [Act.put, List.setIfInBounds_toArray, List.set_cons_succ, List.set_cons_zero])
              refine Mono.step_end fun v5 hE _ => ?_
              simp only [List.drop_succ_cons, List.drop_zero]
              replace hE := (Ext.drew _).trans hE
              have JW5 := Lib.hid (HW5.out.ext hE); have JB5 := Lib.hid (HB5.out.trans (Below.mono hE HW5.out.2.1))
              have hc := (HM.out.below JB5.out hmb).cell 5 rfl
              clear hE
              go_wp2_with fail
              refine (wnumM B wb mb 5 l 0 4611686018427387904 hu5 _ v5 JW5.out hmb hc (by (try simp only [List.length_append]); omega)).mono ?_
              rintro en w6 ⟨hC, hm⟩
              have HB6 := Lib.hid (JB5.out.trans hC)
              clear hC hc
              rw [show (if 0 ≤ l ∧ l ≤ 4611686018427387904 then some (numB l.toNat) else none) = wNum 0 4611686018427387904 l from rfl] at hm
              rcases hY : wNum 0 4611686018427387904 l with _ | a5
              · rw [hY] at hm
                obtain rfl := hm
                have HZ : Hid (X = none) := Lib.hid (by rw [HX.out]; simp [wBody, wRest, seqO, HY1.out, HY2.out, HY3.out, HY4.out, hY])
                clear hY
                go_wp2_with fail
                exact ⟨rfl, WW.err HZ.out HB6.out⟩
              rw [hY] at hm
              obtain ⟨rfl, hw⟩ := hm
              have HW6 := Lib.hid hw; have HY5 := Lib.hid hY
              have hl5 := wNum_len hY
              clear hw hY
              go_wp2_with fail
              apply Mono.region1 7 Ext [.is _, .is _, .is _, .is _, .is _, .is _, .is _] (by kernel_rfl) Ext.refl (fun _ _ _ => Ext.trans) (by kernel_rfl) rfl rfl trivial
              focus
                iterate 7 (apply Mono.step_is; (· refine Mono.obl_mk fun w3 hE3 _ K hK => ?_; go_wp2_with fail; simp only [Act.put, List.setIfInBounds_toArray, List.set_cons_succ, List.set_cons_zero] at hK; exact hK _ _ (Ext.refl _) (Mono.is_rfl _ _)); simp only [Act.put, List.setIfInBounds_toArray, List.set_cons_succ, List.set_cons_zero])
                refine Mono.step_end fun v6 hE _ => ?_
                simp only [List.drop_succ_cons, List.drop_zero]
                replace hE := (Ext.drew _).trans hE
                have JW6 := Lib.hid (HW6.out.ext hE); have JB6 := Lib.hid (HB6.out.trans (Below.mono hE HW6.out.2.1))
                have hc := (HM.out.below JB6.out hmb).cell 7 rfl
                clear hE
                go_wp2_with fail
                refine (wnumM B wb mb 7 s 0 18446744073709551615 hu7 _ v6 JW6.out hmb hc (by (try simp only [List.length_append]); omega)).mono ?_
                rintro en w7 ⟨hC, hm⟩
                have HB7 := Lib.hid (JB6.out.trans hC)
                clear hC hc
                rw [show (if 0 ≤ s ∧ s ≤ 18446744073709551615 then some (numB s.toNat) else none) = wNum 0 18446744073709551615 s from rfl] at hm
                rcases hY : wNum 0 18446744073709551615 s with _ | a6
                · rw [hY] at hm
                  obtain rfl := hm
                  have HZ : Hid (X = none) := Lib.hid (by rw [HX.out]; simp [wBody, wRest, seqO, HY1.out, HY2.out, HY3.out, HY4.out, HY5.out, hY])
                  clear hY
                  go_wp2_with fail
                  exact ⟨rfl, WW.err HZ.out HB7.out⟩
                rw [hY] at hm
                obtain ⟨rfl, hw⟩ := hm
                have HW7 := Lib.hid hw; have HY7 := Lib.hid hY
                have hl6 := wNum_len hY
                clear hw hY
                go_wp2_with fail
                apply Mono.region1 7 Ext [.is _, .is _, .is _, .is _, .is _, .is _, .is _] (by kernel_rfl) Ext.refl (fun _ _ _ => Ext.trans) (by kernel_rfl) rfl rfl trivial
                focus
                  iterate 7 (apply Mono.step_is; (· refine Mono.obl_mk fun w3 hE3 _ K hK => ?_; go_wp2_with fail; simp only [Act.put, List.setIfInBounds_toArray, List.set_cons_succ, List.set_cons_zero] at hK; exact hK _ _ (Ext.refl _) (Mono.is_rfl _ _)); simp only [Act.put, List.setIfInBounds_toArray, List.set_cons_succ, List.set_cons_zero])
                  refine Mono.step_end fun v7 hE _ => ?_
                  simp only [List.drop_succ_cons, List.drop_zero]
                  replace hE := (Ext.drew _).trans hE
                  have JW7 := Lib.hid (HW7.out.ext hE); have JB7 := Lib.hid (HB7.out.trans (Below.mono hE HW7.out.2.1))
                  have hc := (HM.out.below JB7.out hmb).cell 10 rfl
                  clear hE
                  go_wp2_with fail
                  refine (wmemM B wb mb 10 ms b10 n10 c10 _ v7 JW7.out hmb hc (fun W hW => HMS.out W (JB7.out.trans hW)) OKM.out (by (try simp only [List.length_append]); omega)).mono ?_
                  rintro en w8 ⟨hC, hm⟩
                  have HB8 := Lib.hid (JB7.out.trans hC)
                  clear hC hc
                  rw [show (if membersB ms then some (numB ms.length ++ ms.flatMap (fun m => numB m.toNat)) else none) = wMems ms from rfl] at hm
                  rcases hY : wMems ms with _ | a7
                  · rw [hY] at hm
                    obtain rfl := hm
                    have HZ : Hid (X = none) := Lib.hid (by rw [HX.out]; simp [wBody, wRest, seqO, HY1.out, HY2.out, HY3.out, HY4.out, HY5.out, HY7.out, hY])
                    clear hY
                    go_wp2_with fail
                    exact ⟨rfl, WW.err HZ.out HB8.out⟩
                  rw [hY] at hm
                  obtain ⟨rfl, hw⟩ := hm
                  have HW8 := Lib.hid hw; have HY10 := Lib.hid hY
                  have hl7 := wMems_len hY
                  clear hw hY
                  go_wp2_with fail
                  apply Mono.region1 7 Ext [.is _, .is _, .is _, .is _, .is _, .is _, .is _] (by kernel_rfl) Ext.refl (fun _ _ _ => Ext.trans) (by kernel_rfl) rfl rfl trivial
                  focus
                    iterate 7 (apply Mono.step_is; (· refine Mono.obl_mk fun w3 hE3 _ K hK => ?_; go_wp2_with fail; simp only [Act.put, List.setIfInBounds_toArray, List.set_cons_succ, List.set_cons_zero] at hK; exact hK _ _ (Ext.refl _) (Mono.is_rfl _ _)); simp only [Act.put, List.setIfInBounds_toArray, List.set_cons_succ, List.set_cons_zero])
                    refine Mono.step_end fun v8 hE _ => ?_
                    simp only [List.drop_succ_cons, List.drop_zero]
                    replace hE := (Ext.drew _).trans hE
                    have JW8 := Lib.hid (HW8.out.ext hE); have JB8 := Lib.hid (HB8.out.trans (Below.mono hE HW8.out.2.1))
                    have hc := (HM.out.below JB8.out hmb).cell 11 rfl
                    clear hE
                    go_wp2_with fail
                    refine (wimgM B wb mb 11 d b11 n11 c11 _ v8 JW8.out hmb hc (fun W hW => HI.out W (JB8.out.trans hW)) (by (try simp only [List.length_append]); omega)).mono ?_
                    rintro en w9 ⟨hC, hm⟩
                    have HB9 := Lib.hid (JB8.out.trans hC)
                    clear hC hc
                    rw [show (if d.length ≤ 16384 then some (numB d.length ++ d) else none) = wImg d from rfl] at hm
                    rcases hY : wImg d with _ | a8
                    · rw [hY] at hm
                      obtain rfl := hm
                      have HZ : Hid (X = none) := Lib.hid (by rw [HX.out]; simp [wBody, wRest, seqO, HY1.out, HY2.out, HY3.out, HY4.out, HY5.out, HY7.out, HY10.out, hY])
                      clear hY
                      go_wp2_with fail
                      exact ⟨rfl, WW.err HZ.out HB9.out⟩
                    rw [hY] at hm
                    obtain ⟨rfl, hw⟩ := hm
                    have HW9 := Lib.hid hw; have HY11 := Lib.hid hY
                    clear hw hY
                    go_wp2_with fail
                    have HZ : Hid (X = some (a1 ++ (a2 ++ (a3 ++ (a4 ++ (a5 ++ (a6 ++ (a7 ++ (a8))))))))) := Lib.hid (by rw [HX.out]; simp [wBody, wRest, seqO, HY1.out, HY2.out, HY3.out, HY4.out, HY5.out, HY7.out, HY10.out, HY11.out])
                    go_end0
                    exact WW.ok HZ.out rfl HB9.out (by have h := HW9.out; simpa only [List.append_assoc] using h)
        have HZ : Hid (X = none) := Lib.hid (by rw [HX.out]; simp [wBody, wRest, seqO, HY1.out, HY2.out, HY3.out, hk1, hk2, hk3, hk4, hk5])
        go_wp2_with fail
        exact ⟨rfl, WW.err HZ.out HB4.out⟩
end Go.Proofs.Ytjodgbabfhcilaa
