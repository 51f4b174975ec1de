/- Layer 7 (frame): frames plainly. No program. -/
import Derived.Test.YtafjjladnghjbaaGreatDoorCrcL
import Derived.Test.YtafjjladnghjbaaGreatDoorRdL
namespace Go.Proofs.YtafjjladnghjbaaGreatDoor
open Go

abbrev By8 (l : List Int) : Prop := ∀ x ∈ l, 0 ≤ x ∧ x ≤ 255
/-- The four bytes of a sum. -/
def sum4 (s : Wd) : List Int := [iw s / 16777216 % 256, iw s / 65536 % 256, iw s / 256 % 256, iw s % 256]
/-- A record's frame. -/
def frmB (r : List Int) : List Int := numB r.length ++ r ++ sum4 (crcJoin (crcSum (numB r.length)) (crcSum r) r.length)
theorem sum4_b8 (s : Wd) : By8 (sum4 s) := by
  intro x hx
  simp only [sum4, List.mem_cons, List.not_mem_nil, or_false] at hx
  rcases hx with rfl | rfl | rfl | rfl <;> omega
theorem frmB_b8 {r : List Int} (h : By8 r) : By8 (frmB r) := by
  intro x hx
  unfold frmB at hx
  rcases List.mem_append.1 hx with hx | hx
  · rcases List.mem_append.1 hx with hx | hx
    · exact numB_bound _ x hx
    · exact h x hx
  · exact sum4_b8 _ x hx
theorem frmB_len (r : List Int) : (frmB r).length = numK r.length + 1 + r.length + 4 := by
  unfold frmB; simp [sum4, numB_len]; omega
theorem frmB_len5 (r : List Int) : 5 ≤ (frmB r).length := by rw [frmB_len]; omega
theorem frmB_eq (r : List Int) : frmB r = numB r.length ++ r ++ sum4 (crcSum (numB r.length ++ r)) := by
  unfold frmB; rw [crc_join]
/-- Four bytes as a word. -/
def val4 (l : List Int) : Wd := l.foldl (fun s x => (s <<< 8) ||| BitVec.ofNat 32 x.toNat) 0#32
theorem shl8_or (s : Wd) (x : Int) (h : 0 ≤ x ∧ x ≤ 255) : ((s <<< 8) ||| BitVec.ofNat 32 x.toNat).toNat = s.toNat * 256 % 4294967296 + x.toNat := by
  have hx : x.toNat < 2 ^ 8 := by omega
  rw [BitVec.toNat_or, BitVec.toNat_shiftLeft, BitVec.toNat_ofNat, Nat.mod_eq_of_lt (show x.toNat < 2 ^ 32 by omega)]
  have h1 : s.toNat <<< 8 % 2 ^ 32 = (s.toNat % 2 ^ 24) <<< 8 := by
    rw [Nat.shiftLeft_eq, Nat.shiftLeft_eq]; omega
  rw [h1, ← Nat.shiftLeft_add_eq_or_of_lt hx, Nat.shiftLeft_eq]; omega
theorem val4_nat (a b c d : Int) (ha : 0 ≤ a ∧ a ≤ 255) (hb : 0 ≤ b ∧ b ≤ 255) (hc : 0 ≤ c ∧ c ≤ 255) (hd : 0 ≤ d ∧ d ≤ 255) :
    (val4 [a, b, c, d]).toNat = a.toNat * 16777216 + b.toNat * 65536 + c.toNat * 256 + d.toNat := by
  simp only [val4, List.foldl_cons, List.foldl_nil]
  rw [shl8_or _ _ hd, shl8_or _ _ hc, shl8_or _ _ hb, shl8_or _ _ ha]
  simp; omega
theorem val4_sum4 (s : Wd) : val4 (sum4 s) = s := by
  apply BitVec.eq_of_toNat_eq
  unfold sum4
  rw [val4_nat _ _ _ _ (by omega) (by omega) (by omega) (by omega)]
  unfold iw
  have := s.isLt
  omega
theorem sum4_val4 {l : List Int} (h : l.length = 4) (h8 : By8 l) : sum4 (val4 l) = l := by
  match l, h with
  | [a, b, c, d], _ =>
    have ha := h8 a (by simp); have hb := h8 b (by simp); have hc := h8 c (by simp); have hd := h8 d (by simp)
    have := val4_nat a b c d ha hb hc hd
    unfold sum4 iw
    rw [this]
    simp only [List.cons.injEq, and_true]
    omega
/-- frame.One. -/
def oneF (b : List Int) : Except Int (List Int × Nat) :=
  match rdNum (b.take 9) with
  | .error e => .error e
  | .ok (n, r) => if 32768 < n then .error 4 else
    if b.length < (b.take 9).length - r.length + n.toNat + 4 then .error 2 else
    if crcSum (b.take ((b.take 9).length - r.length + n.toNat)) ≠ val4 ((b.drop ((b.take 9).length - r.length + n.toNat)).take 4) then .error 3 else
    .ok ((b.drop ((b.take 9).length - r.length)).take n.toNat, (b.take 9).length - r.length + n.toNat + 4)
theorem oneF_frm (r t : List Int) (hr : r.length ≤ 32768) : oneF (frmB r ++ t) = .ok (r, (frmB r).length) := by
  have hk : (numB r.length).length ≤ 9 := by rw [numB_len]; have := numK_le r.length; omega
  obtain ⟨N, hN⟩ : ∃ N, N = numB r.length := ⟨_, rfl⟩
  obtain ⟨X, hX⟩ : ∃ X, X = r ++ sum4 (crcSum (numB r.length ++ r)) ++ t := ⟨_, rfl⟩
  have hb : frmB r ++ t = N ++ X := by rw [frmB_eq, hN, hX]; simp
  have h9 : (N ++ X).take 9 = N ++ X.take (9 - N.length) := by rw [List.take_append, List.take_of_length_le (by rw [hN]; omega)]
  have hnum : rdNum (N ++ X.take (9 - N.length)) = .ok ((r.length : Int), X.take (9 - N.length)) := by rw [hN]; exact rdNum_numB _ (by omega) _
  have hlen : (N ++ X.take (9 - N.length)).length - (X.take (9 - N.length)).length = N.length := by simp
  have hXl : X.length = r.length + 4 + t.length := by rw [hX]; simp [sum4]; omega
  unfold oneF
  rw [hb, h9, hnum]
  simp only [hlen, Int.toNat_natCast]
  rw [if_neg (by omega), if_neg (by simp; omega)]
  have hY : N ++ X = (N ++ r) ++ (sum4 (crcSum (N ++ r)) ++ t) := by rw [hX, hN]; simp
  have e1 : (N ++ X).take (N.length + r.length) = N ++ r := by rw [hY, List.take_left' (by simp)]
  have e2 : ((N ++ X).drop (N.length + r.length)).take 4 = sum4 (crcSum (N ++ r)) := by rw [hY, List.drop_left' (by simp), List.take_left' (by simp [sum4])]
  have e3 : ((N ++ X).drop N.length).take r.length = r := by rw [hX]; simp
  rw [e1, e2, e3, val4_sum4, if_neg (by simp)]
  rw [frmB_len, hN, numB_len]
theorem oneF_inv {b r : List Int} {k : Nat} (h8 : By8 b) (h : oneF b = .ok (r, k)) : r.length ≤ 32768 ∧ frmB r <+: b ∧ k = (frmB r).length ∧ By8 r := by
  unfold oneF at h
  cases hn : rdNum (b.take 9) with
  | error e => rw [hn] at h; cases h
  | ok p =>
    obtain ⟨n, r'⟩ := p
    rw [hn] at h
    simp only at h
    obtain ⟨h1, h2, h3⟩ := rdNum_inv _ _ _ (fun x hx => h8 x (List.mem_of_mem_take hx)) hn
    split at h
    · cases h
    rename_i hn1
    split at h
    · cases h
    rename_i hl
    split at h
    · cases h
    rename_i hs
    simp only [Except.ok.injEq, Prod.mk.injEq] at h
    obtain ⟨N, hN⟩ : ∃ N, N = numB n.toNat := ⟨_, rfl⟩
    have hlen : (b.take 9).length - r'.length = N.length := by rw [h1, hN]; simp
    rw [hlen] at hl hs h
    have hb : b = N ++ (r' ++ b.drop 9) := by
      rw [← List.append_assoc, hN, ← h1, List.take_append_drop]
    obtain ⟨X, hX⟩ : ∃ X, X = r' ++ b.drop 9 := ⟨_, rfl⟩
    rw [← hX] at hb
    obtain ⟨hr, hk⟩ := h
    have hXl : n.toNat + 4 ≤ X.length := by rw [hb] at hl; simp at hl; omega
    have er : r = X.take n.toNat := by rw [← hr, hb]; simp
    have erl : r.length = n.toNat := by rw [er, List.length_take]; omega
    have e1 : b.take (N.length + n.toNat) = N ++ r := by rw [hb, er, List.take_append, List.take_of_length_le (by omega), Nat.add_sub_cancel_left]
    have e2 : (b.drop (N.length + n.toNat)).take 4 = (X.drop n.toNat).take 4 := by rw [hb, List.drop_append, List.drop_of_length_le (by omega), Nat.add_sub_cancel_left, List.nil_append]
    have e3 : X = r ++ ((X.drop n.toNat).take 4 ++ X.drop (n.toNat + 4)) := by
      have e4 : (X.drop n.toNat).take 4 ++ X.drop (n.toNat + 4) = X.drop n.toNat := by
        rw [← List.drop_drop]; exact List.take_append_drop _ _
      rw [e4, er]; exact (List.take_append_drop _ _).symm
    have hbX : ∀ x ∈ X, x ∈ b := fun x hx => by rw [hb]; simp [hx]
    have hs' : crcSum (N ++ r) = val4 ((X.drop n.toNat).take 4) := by
      rw [e1, e2] at hs; exact Decidable.byContradiction hs
    have h4 : ((X.drop n.toNat).take 4).length = 4 := by rw [List.length_take, List.length_drop]; omega
    have hsum := sum4_val4 h4 (fun x hx => h8 x (hbX x (List.mem_of_mem_drop (List.mem_of_mem_take hx))))
    have hf : frmB r = N ++ r ++ (X.drop n.toNat).take 4 := by
      rw [frmB_eq, erl, ← hN, hs', hsum]
    refine ⟨by omega, ⟨X.drop (n.toNat + 4), ?_⟩, ?_, ?_⟩
    · rw [hf, List.append_assoc, List.append_assoc, ← e3, ← hb]
    · rw [hf, ← hk]; simp only [List.length_append, h4, erl]
    · intro x hx; rw [er] at hx; exact h8 x (hbX x (List.mem_of_mem_take hx))
/-- No frame stands at the head. -/
def NoFr (b : List Int) : Prop := ∀ r : List Int, r.length ≤ 32768 → By8 r → ¬ frmB r <+: b
theorem nofr_err {b : List Int} (h8 : By8 b) (h : NoFr b) : ∃ e, oneF b = .error e := by
  cases ho : oneF b with
  | error e => exact ⟨e, rfl⟩
  | ok p => obtain ⟨r, k⟩ := p; obtain ⟨h1, h2, h3, h4⟩ := oneF_inv h8 ho; exact absurd h2 (h r h1 h4)
theorem nofr_of_err {b : List Int} {e : Int} (h : oneF b = .error e) : NoFr b := by
  rintro r hr _ ⟨t, rfl⟩
  rw [oneF_frm r t hr] at h; cases h
theorem frmB_pre {r r' b : List Int} (h : r.length ≤ 32768) (h' : r'.length ≤ 32768) (hp : frmB r <+: b) (hp' : frmB r' <+: b) : r = r' := by
  obtain ⟨t, rfl⟩ := hp
  obtain ⟨t', e⟩ := hp'
  have := oneF_frm r' t' h'
  rw [e, oneF_frm r t h] at this
  simp only [Except.ok.injEq, Prod.mk.injEq] at this
  exact this.1
theorem nofr_nil : NoFr [] := by
  rintro r _ _ h
  have := List.prefix_nil.1 h
  have h5 := frmB_len5 r
  rw [this] at h5; simp at h5
theorem nofr_cut {r : List Int} (hr : r.length ≤ 32768) {j : Nat} (hj : j < (frmB r).length) : NoFr ((frmB r).take j) := by
  rintro r' hr' _ h
  have e : r' = r := frmB_pre hr' hr (h.trans (List.take_prefix _ _)) (List.prefix_refl _)
  subst e
  have := h.length_le
  rw [List.length_take] at this; omega
theorem crc0_ne : sum4 (crcSum [0]) ≠ [0, 0, 0, 0] := by decide
theorem nofr_zeros {k : Nat} (hk : 5 ≤ k) (t : List Int) : NoFr (List.replicate k 0 ++ t) := by
  rintro r hr _ ⟨s, e⟩
  obtain ⟨k, rfl⟩ : ∃ j, k = j + 5 := ⟨k - 5, by omega⟩
  have h0 : numK r.length = 0 := by
    have := congrArg List.head? e
    unfold frmB numB at this
    simp [List.replicate_succ] at this
    omega
  have hr0 : r.length = 0 := by
    by_cases h : r.length = 0
    · exact h
    · have := numK_rec r.length h (by omega); omega
  have hrn : r = [] := List.eq_nil_of_length_eq_zero hr0
  subst hrn
  have hf : frmB [] = 0 :: sum4 (crcSum [0]) := by
    rw [frmB_eq]
    have : numB ([] : List Int).length = [0] := by unfold numB; rw [h0]; rfl
    rw [this]; rfl
  rw [hf] at e
  apply crc0_ne
  have e2 := congrArg (fun l => (l.drop 1).take 4) e
  simpa [List.replicate_succ, sum4] using e2
/-- Frames one behind the other. -/
def catF (rs : List (List Int)) : List Int := (rs.map frmB).flatten
theorem catF_nil : catF [] = [] := rfl
theorem catF_cons (r : List Int) (rs : List (List Int)) : catF (r :: rs) = frmB r ++ catF rs := rfl
theorem catF_append (a b : List (List Int)) : catF (a ++ b) = catF a ++ catF b := by simp [catF]
/-- Records that may lie in frames. -/
def RecOk (r : List Int) : Prop := r.length ≤ 32768 ∧ By8 r
theorem catF_b8 {rs : List (List Int)} (h : ∀ r ∈ rs, RecOk r) : By8 (catF rs) := by
  intro x hx
  simp only [catF, List.mem_flatten, List.mem_map] at hx
  obtain ⟨l, ⟨r, hr, rfl⟩, hx⟩ := hx
  exact frmB_b8 (h r hr).2 x hx
/-- Any bytes are frames and a rest that begins with none. -/
theorem frames_split : ∀ (n : Nat) (b : List Int), b.length ≤ n → By8 b → ∃ rs junk, b = catF rs ++ junk ∧ NoFr junk ∧ ∀ r ∈ rs, RecOk r
  | 0, b, hn, h8 => by
    have : b = [] := List.eq_nil_of_length_eq_zero (by omega)
    subst this
    exact ⟨[], [], rfl, nofr_nil, by simp⟩
  | n + 1, b, hn, h8 => by
    cases ho : oneF b with
    | error e => exact ⟨[], b, rfl, nofr_of_err ho, by simp⟩
    | ok p =>
      obtain ⟨r, k⟩ := p
      obtain ⟨h1, ⟨t, rfl⟩, h3, h4⟩ := oneF_inv h8 ho
      have h5 := frmB_len5 r
      obtain ⟨rs, junk, e, hj, hr⟩ := frames_split n t (by simp at hn; omega) (fun x hx => h8 x (by simp [hx]))
      refine ⟨r :: rs, junk, by rw [catF_cons, e, List.append_assoc], hj, ?_⟩
      intro x hx
      rcases List.mem_cons.1 hx with rfl | hx
      · exact ⟨h1, h4⟩
      · exact hr x hx
end Go.Proofs.YtafjjladnghjbaaGreatDoor
