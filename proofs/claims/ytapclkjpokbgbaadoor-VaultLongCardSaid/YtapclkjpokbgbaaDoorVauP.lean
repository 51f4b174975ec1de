/- vault: what puts, openings and crashes leave, plain. -/
import Derived.Test.YtapclkjpokbgbaaDoorVau6
set_option linter.unusedSimpArgs false
set_option linter.unusedVariables false
namespace Go.Proofs.YtapclkjpokbgbaaDoor
open Go Go.RowKit Go.Maps

theorem nm_app (a b : ByteArray) : nmOf (a ++ b) = nmOf a ++ nmOf b := by simp [nmOf, ByteArray.data_append]
theorem vnm_ne (name : ByteArray) : nmOf (vnow name) ≠ nmOf (vfresh name) := by
  unfold vnow vfresh
  rw [nm_app, nm_app]
  intro e
  exact absurd (List.append_cancel_left e) (by decide)
theorem al_nm (x : UInt8) : alSet.contains x = true → nmSet.contains x = true := by
  have key : ∀ n : Fin 256, alSet.contains (UInt8.ofNat n.val) = true → nmSet.contains (UInt8.ofNat n.val) = true := by decide +kernel
  have := key ⟨x.toNat, x.toNat_lt⟩
  simpa using this
theorem named_app (name e : ByteArray) (h : named4 name = true) (he : e.size = 4) (hs : e.data.toList.all (nmSet.contains ·) = true) : namedB (name ++ e) = true := by
  unfold named4 at h
  simp only [Bool.and_eq_true, decide_eq_true_eq] at h
  unfold namedB
  rw [ByteArray.size_append, ByteArray.data_append, Array.toList_append, List.all_append, hs, he]
  have ha : name.data.toList.all (nmSet.contains ·) = true := by
    rw [List.all_eq_true]
    intro x hx
    exact al_nm x (List.all_eq_true.1 h.2 x hx)
  rw [ha]
  simp; omega
theorem vnow_named {name : ByteArray} (h : named4 name = true) : namedB (vnow name) = true := named_app name _ h rfl (by decide)
theorem vfresh_named {name : ByteArray} (h : named4 name = true) : namedB (vfresh name) = true := named_app name _ h rfl (by decide)
/-- A fuse that burns. -/
def bf (f : Int) : Int := if 0 < f then f - 1 else f
theorem burn_bf {T : Dk} (h : T.fuse ≠ 0) : burnS T = { T with fuse := bf T.fuse } := by
  unfold burnS bf
  rw [if_neg h]
  split <;> rfl
theorem sync_0 {T : Dk} (h : T.off = false) (hf : T.fuse = 0) : syncS T = (6, { T with off := true }) := by
  unfold syncS; rw [if_neg (by rw [h]; simp), if_pos hf]
theorem sync_1 {T : Dk} (h : T.off = false) (hf : T.fuse ≠ 0) : syncS T = (0, { T with fuse := bf T.fuse, sure := T.now, waits := [] }) := by
  unfold syncS; rw [if_neg (by rw [h]; simp), if_neg hf, burn_bf hf]
theorem wait_0 {T : Dk} (o : Dd) (hf : T.fuse = 0) : waitS T o = (6, { T with off := true }) := by
  unfold waitS; rw [if_pos hf]
theorem wait_1 {T : Dk} (o : Dd) (hf : T.fuse ≠ 0) : waitS T o = (0, { T with fuse := bf T.fuse, now := doF o T.now, waits := T.waits ++ [o] }) := by
  unfold waitS; rw [if_neg hf, burn_bf hf]
/-- The vault on a disk where nothing waits: it has the text t. -/
structure VOpn (name : ByteArray) (S : Dk) (t : Txt) : Prop where
  waits : S.waits = []
  sure : S.sure = S.now
  off : S.off = false
  cur : getG (nmOf (vnow name)) S.now = if t.2 then some t.1 else none
  txt : t.2 = false → t.1 = []
/-- .. and no new file. -/
structure VInv (name : ByteArray) (S : Dk) (t : Txt) : Prop extends VOpn name S t where
  fresh : getG (nmOf (vfresh name)) S.now = none
theorem VOpn.read {name : ByteArray} {S : Dk} {t : Txt} (h : VOpn name S t) : (readS S (vnow name)).1 = t.1 ∧ ((readS S (vnow name)).2 == 0) = t.2 := by
  unfold readS
  rw [if_neg (by rw [h.off]; simp), h.cur]
  cases h2 : t.2 with
  | false => rw [h.txt h2]; exact ⟨rfl, rfl⟩
  | true => exact ⟨rfl, rfl⟩
def wV (name : ByteArray) (b : List Int) : Dd := ⟨119, vfresh name, ⟨#[]⟩, 0, b⟩
def nV (name : ByteArray) : Dd := ⟨110, vfresh name, vnow name, 0, []⟩
def rV (name : ByteArray) : Dd := ⟨114, vfresh name, ⟨#[]⟩, 0, []⟩
theorem over_fresh (b : List Int) : over [] 0 b = b := by
  unfold over splice; simp
theorem do_w {name : ByteArray} {b : List Int} {L : FL} (h : getG (nmOf (vfresh name)) L = none) : doF (wV name b) L = putG (nmOf (vfresh name)) b L := by
  unfold doF wV
  rw [if_pos rfl]
  dsimp only
  rw [h]
  by_cases hb : b = []
  · rw [if_pos hb, hb]; rfl
  · rw [if_neg hb]
    show putG _ (over [] 0 b) L = _
    rw [over_fresh]
theorem do_n {name : ByteArray} {b : List Int} {L : FL} (h : getG (nmOf (vfresh name)) L = some b) : doF (nV name) L = putG (nmOf (vnow name)) b (delG (nmOf (vfresh name)) L) := by
  unfold doF nV
  rw [if_neg (by simp)]
  dsimp only
  rw [h]
  rfl
theorem do_r {name : ByteArray} {L : FL} {x : List Int} (h : getG (nmOf (vfresh name)) L = some x) : doF (rV name) L = delG (nmOf (vfresh name)) L := by
  unfold doF rV
  rw [if_neg (by simp)]
  dsimp only
  rw [h]
  rfl
theorem crash_none {S : Dk} (hw : S.waits = []) (keep : List Bool) (torn : Int) : crashS S keep torn = { S with now := S.sure, sure := S.sure, waits := [], off := false, fuse := -1 } := by
  have : keptD [] keep = [] := by unfold keptD; cases keep <;> rfl
  unfold crashS; rw [hw, this]; rfl
theorem crash_one {S : Dk} {o : Dd} (hw : S.waits = [o]) (keep : List Bool) (torn : Int) : ∃ L, (L = S.sure ∨ L = doF (tearD torn o) S.sure) ∧ crashS S keep torn = { S with now := L, sure := L, waits := [], off := false, fuse := -1 } := by
  cases keep with
  | nil => exact ⟨S.sure, .inl rfl, by unfold crashS; rw [hw]; rfl⟩
  | cons k r =>
    have hr : keptD [] r = [] := by unfold keptD; cases r <;> rfl
    cases k with
    | false => exact ⟨S.sure, .inl rfl, by unfold crashS; rw [hw]; simp only [keptD, hr]; rfl⟩
    | true => exact ⟨_, .inr rfl, by unfold crashS; rw [hw]; simp only [keptD, hr]; rfl⟩
section
variable {name : ByteArray} {S : Dk} {t : Txt} {b : List Int}
theorem VOpn.fused (h : VOpn name S t) (f : Int) : VOpn name { S with fuse := f } t := ⟨h.waits, h.sure, h.off, h.cur, h.txt⟩
theorem VInv.fused (h : VInv name S t) (f : Int) : VInv name { S with fuse := f } t := ⟨h.toVOpn.fused f, h.fresh⟩
theorem VOpn.crash (h : VOpn name S t) (keep : List Bool) (torn : Int) : VOpn name (crashS S keep torn) t ∧ (crashS S keep torn).fuse = -1 ∧ (crashS S keep torn).room = S.room := by
  rw [crash_none h.waits]
  exact ⟨⟨rfl, rfl, rfl, by show getG _ S.sure = _; rw [h.sure]; exact h.cur, h.txt⟩, rfl, rfl⟩
/-- What a put and a crash behind it leave. -/
def PutOut (name : ByteArray) (S : Dk) (t : Txt) (b : List Int) (X : Int × Dk) : Prop :=
  (X.1 = 0 ∧ VInv name X.2 (b, true) ∧ X.2.room = S.room ∧ (S.fuse = -1 → X.2.fuse = -1) ∧ ∀ k, k ≠ nmOf (vnow name) → k ≠ nmOf (vfresh name) → getG k X.2.now = getG k S.now) ∨
  (X.1 = 6 ∧ S.fuse ≠ -1 ∧ X.2.off = true ∧ X.2.waits.length ≤ 1 ∧ ∀ keep torn, ∃ t', (t' = t ∨ t' = (b, true)) ∧ VOpn name (crashS X.2 keep torn) t' ∧ (crashS X.2 keep torn).fuse = -1 ∧ (crashS X.2 keep torn).room = S.room)
theorem VInv.put (h : VInv name S t) (hn : named4 name = true) (hu : (usedF S.now : Int) + b.length ≤ S.room) : PutOut name S t b (putV S name b) := by
  have hne := vnm_ne name
  obtain ⟨L1, hL1⟩ : ∃ L1, L1 = putG (nmOf (vfresh name)) b S.now := ⟨_, rfl⟩
  have d1 : doF (wV name b) S.now = L1 := by rw [hL1]; exact do_w h.fresh
  have g1 : getG (nmOf (vfresh name)) L1 = some b := by rw [hL1]; exact getG_putG_same
  have g1n : getG (nmOf (vnow name)) L1 = if t.2 then some t.1 else none := by rw [hL1, getG_putG_other hne]; exact h.cur
  have g1o : ∀ k, k ≠ nmOf (vfresh name) → getG k L1 = getG k S.now := fun k hk => by rw [hL1, getG_putG_other hk]
  have hw : writeS S (vfresh name) 0 b = waitS S (wV name b) := by
    have hg : growsB S.now (vfresh name) 0 b ≤ b.length := by unfold growsB; rw [h.fresh]; split <;> simp <;> omega
    unfold writeS
    rw [if_neg (by rw [h.off]; simp), if_neg (by rw [vfresh_named hn]; simp), if_neg (by omega), if_neg (by omega)]
    rfl
  obtain ⟨L2, hL2⟩ : ∃ L2, L2 = putG (nmOf (vnow name)) b (delG (nmOf (vfresh name)) L1) := ⟨_, rfl⟩
  have d2 : doF (nV name) L1 = L2 := by rw [hL2]; exact do_n g1
  have g2 : getG (nmOf (vfresh name)) L2 = none := by rw [hL2, getG_putG_other (Ne.symm hne)]; exact getG_delG_same
  have g2n : getG (nmOf (vnow name)) L2 = some b := by rw [hL2]; exact getG_putG_same
  have g2o : ∀ k, k ≠ nmOf (vnow name) → k ≠ nmOf (vfresh name) → getG k L2 = getG k S.now := fun k h1 h2 => by rw [hL2, getG_putG_other h1, getG_delG_other h2]; exact g1o k h2
  have hlost : ∀ (T : Dk) (L : FL) (t' : Txt), (t' = t ∨ t' = (b, true)) → getG (nmOf (vnow name)) L = (if t'.2 then some t'.1 else none) → T.room = S.room → ∃ t', (t' = t ∨ t' = (b, true)) ∧ VOpn name { T with now := L, sure := L, waits := [], off := false, fuse := -1 } t' ∧ ({ T with now := L, sure := L, waits := [], off := false, fuse := -1 } : Dk).fuse = -1 ∧ ({ T with now := L, sure := L, waits := [], off := false, fuse := -1 } : Dk).room = S.room := fun T L t' h1 h2 h3 =>
    ⟨t', h1, ⟨rfl, rfl, rfl, h2, fun e => by rcases h1 with rfl | rfl; exact h.txt e; simp at e⟩, rfl, h3⟩
  unfold putV
  rw [hw]
  by_cases hf0 : S.fuse = 0
  · rw [wait_0 _ hf0, if_pos (by simp)]
    refine .inr ⟨rfl, by omega, rfl, by rw [h.waits]; simp, fun keep torn => ?_⟩
    rw [crash_none (S := { S with off := true }) h.waits]
    exact hlost { S with off := true } S.sure t (.inl rfl) (by rw [h.sure]; exact h.cur) rfl
  rw [wait_1 _ hf0, if_neg (by simp), d1, h.waits, List.nil_append]
  by_cases hf1 : bf S.fuse = 0
  · rw [sync_0 (T := { S with fuse := bf S.fuse, now := L1, waits := [wV name b] }) h.off hf1, if_pos (by simp)]
    refine .inr ⟨rfl, by intro e; rw [e] at hf1; revert hf1; decide, rfl, by simp, fun keep torn => ?_⟩
    obtain ⟨L, hL, e⟩ := crash_one (S := { S with fuse := bf S.fuse, now := L1, waits := [wV name b], off := true }) (o := wV name b) rfl keep torn
    rw [e]
    refine hlost { S with fuse := bf S.fuse, now := L1, waits := [wV name b], off := true } L t (.inl rfl) ?_ rfl
    rcases hL with rfl | rfl
    · show getG _ S.sure = _; rw [h.sure]; exact h.cur
    · show getG _ (doF (tearD torn (wV name b)) S.sure) = _
      rw [h.sure, show tearD torn (wV name b) = wV name (b.take (max 0 (min torn b.length)).toNat) from rfl, do_w h.fresh, getG_putG_other hne]
      exact h.cur
  rw [sync_1 (T := { S with fuse := bf S.fuse, now := L1, waits := [wV name b] }) h.off hf1, if_neg (by simp)]
  dsimp only
  have hr : renameS { S with fuse := bf (bf S.fuse), now := L1, sure := L1, waits := [] } (vfresh name) (vnow name) = waitS { S with fuse := bf (bf S.fuse), now := L1, sure := L1, waits := [] } (nV name) := by
    unfold renameS
    rw [if_neg (by show ¬ S.off = true; rw [h.off]; simp)]
    show (match getG (nmOf (vfresh name)) L1 with | none => _ | some _ => _) = _
    rw [g1]
    dsimp only
    rw [if_neg (by rw [vnow_named hn]; simp)]
    rfl
  rw [hr]
  by_cases hf2 : bf (bf S.fuse) = 0
  · rw [wait_0 _ hf2, if_pos (by simp)]
    refine .inr ⟨rfl, by intro e; rw [e] at hf2; revert hf2; decide, rfl, by simp, fun keep torn => ?_⟩
    rw [crash_none rfl]
    exact hlost { S with fuse := bf (bf S.fuse), now := L1, sure := L1, waits := [], off := true } L1 t (.inl rfl) g1n rfl
  rw [wait_1 _ hf2, if_neg (by simp)]
  dsimp only
  rw [d2, List.nil_append]
  by_cases hf3 : bf (bf (bf S.fuse)) = 0
  · rw [sync_0 (T := { S with fuse := bf (bf (bf S.fuse)), now := L2, sure := L1, waits := [nV name] }) h.off hf3]
    refine .inr ⟨rfl, by intro e; rw [e] at hf3; revert hf3; decide, rfl, by simp, fun keep torn => ?_⟩
    obtain ⟨L, hL, e⟩ := crash_one (S := { S with fuse := bf (bf (bf S.fuse)), now := L2, sure := L1, waits := [nV name], off := true }) (o := nV name) rfl keep torn
    rw [e]
    rcases hL with hL | hL
    · exact hlost { S with fuse := bf (bf (bf S.fuse)), now := L2, sure := L1, waits := [nV name], off := true } L t (.inl rfl) (by rw [hL]; exact g1n) rfl
    · refine hlost { S with fuse := bf (bf (bf S.fuse)), now := L2, sure := L1, waits := [nV name], off := true } L (b, true) (.inr rfl) ?_ rfl
      rw [hL]
      show getG _ (doF (tearD torn (nV name)) L1) = _
      rw [show tearD torn (nV name) = nV name from by simp [tearD, nV], d2]
      exact g2n
  · rw [sync_1 (T := { S with fuse := bf (bf (bf S.fuse)), now := L2, sure := L1, waits := [nV name] }) h.off hf3]
    refine .inl ⟨rfl, ⟨⟨rfl, rfl, h.off, g2n, fun e => by simp at e⟩, g2⟩, rfl, fun e => ?_, g2o⟩
    show bf (bf (bf (bf S.fuse))) = -1
    rw [e]; decide
/-- What an opening leaves. -/
def OpenOut (name : ByteArray) (S : Dk) (t : Txt) (X : Int × Dk) : Prop :=
  (X.1 = 0 ∧ VInv name X.2 t ∧ X.2.room = S.room ∧ (S.fuse = -1 → X.2.fuse = -1) ∧ ∀ k, k ≠ nmOf (vfresh name) → getG k X.2.now = getG k S.now) ∨
  (X.1 = 6 ∧ S.fuse ≠ -1 ∧ X.2.off = true ∧ X.2.waits.length ≤ 1 ∧ ∀ keep torn, VOpn name (crashS X.2 keep torn) t ∧ (crashS X.2 keep torn).fuse = -1 ∧ (crashS X.2 keep torn).room = S.room)
theorem VOpn.open (h : VOpn name S t) : OpenOut name S t (openV S name) := by
  have hne := vnm_ne name
  have hlost : ∀ (T : Dk) (L : FL), getG (nmOf (vnow name)) L = getG (nmOf (vnow name)) S.now → T.room = S.room → VOpn name { T with now := L, sure := L, waits := [], off := false, fuse := -1 } t ∧ ({ T with now := L, sure := L, waits := [], off := false, fuse := -1 } : Dk).fuse = -1 ∧ ({ T with now := L, sure := L, waits := [], off := false, fuse := -1 } : Dk).room = S.room := fun T L h2 h3 =>
    ⟨⟨rfl, rfl, rfl, by rw [← h.cur]; exact h2, h.txt⟩, rfl, h3⟩
  unfold openV
  cases hg : getG (nmOf (vfresh name)) S.now with
  | none =>
    have hr : removeS S (vfresh name) = (8, S) := by
      unfold removeS
      rw [if_neg (by rw [h.off]; simp), hg]
    rw [hr, if_neg (by simp), if_pos (by rw [h.waits]; rfl)]
    exact .inl ⟨rfl, ⟨h, hg⟩, rfl, id, fun _ _ => rfl⟩
  | some x =>
    have hr : removeS S (vfresh name) = waitS S (rV name) := by
      unfold removeS
      rw [if_neg (by rw [h.off]; simp), hg]
      rfl
    rw [hr]
    by_cases hf0 : S.fuse = 0
    · rw [wait_0 _ hf0, if_pos rfl]
      refine .inr ⟨rfl, by omega, rfl, by rw [h.waits]; simp, fun keep torn => ?_⟩
      rw [crash_none (S := { S with off := true }) h.waits]
      exact hlost { S with off := true } S.sure (by rw [h.sure]) rfl
    rw [wait_1 _ hf0, if_neg (by simp), do_r hg, h.waits, List.nil_append, if_neg (by simp)]
    by_cases hf1 : bf S.fuse = 0
    · rw [sync_0 (T := { S with fuse := bf S.fuse, now := delG (nmOf (vfresh name)) S.now, waits := [rV name] }) h.off hf1, if_pos rfl]
      refine .inr ⟨rfl, by intro e; rw [e] at hf1; revert hf1; decide, rfl, by simp, fun keep torn => ?_⟩
      obtain ⟨L, hL, e⟩ := crash_one (S := { S with fuse := bf S.fuse, now := delG (nmOf (vfresh name)) S.now, waits := [rV name], off := true }) (o := rV name) rfl keep torn
      rw [e]
      refine hlost { S with fuse := bf S.fuse, now := delG (nmOf (vfresh name)) S.now, waits := [rV name], off := true } L ?_ rfl
      rcases hL with rfl | rfl
      · show getG _ S.sure = _; rw [h.sure]
      · show getG _ (doF (tearD torn (rV name)) S.sure) = _
        rw [h.sure, show tearD torn (rV name) = rV name from by simp [tearD, rV], do_r hg, getG_delG_other hne]
    · rw [sync_1 (T := { S with fuse := bf S.fuse, now := delG (nmOf (vfresh name)) S.now, waits := [rV name] }) h.off hf1, if_neg (by simp)]
      refine .inl ⟨rfl, ⟨⟨rfl, rfl, h.off, ?_, h.txt⟩, getG_delG_same⟩, rfl, fun e => ?_, fun k hk => getG_delG_other hk⟩
      · show getG _ (delG _ S.now) = _; rw [getG_delG_other hne]; exact h.cur
      · show bf (bf S.fuse) = -1
        rw [e]; decide
end
theorem VInv.new (name : ByteArray) (room : Int) : VInv name (dkNew room) ([], false) := ⟨⟨rfl, rfl, rfl, rfl, fun _ => rfl⟩, rfl⟩
end Go.Proofs.YtapclkjpokbgbaaDoor
