/- Layer 25 (seq): a book's bytes, plainly. No program. -/
import Derived.Test.YtgefphfnicjbiaaRdL
import Derived.Test.YtgefphfnicjbiaaSqb
namespace Go.Proofs.Ytgefphfnicjbiaa
open Go Go.RowKit

/-- A number up to a bound. -/
def rdMany (most : Int) (bs : List Int) : Except Int (Int × List Int) := match rdNum bs with
  | .error e => .error e
  | .ok (n, r) => if most < n then .error 4 else .ok (n, r)
def rdLfs : Nat → List (List Int) → List Int → Except Int (List (List Int) × List Int)
  | 0, acc, r => .ok (acc, r)
  | k + 1, acc, r => match rdRaw 64 r with
    | .error e => .error e
    | .ok (l, r) => rdLfs k (acc ++ [l]) r
/-- x is above the last of acc, if there is one. -/
def upTo (acc : List Int) (x : Int) : Bool := match acc.getLast? with
  | none => true
  | some y => decide (y < x)
def rdSls (n : Int) : Nat → List (Int × Int) → List Int → Except Int (List (Int × Int) × List Int)
  | 0, acc, r => .ok (acc, r)
  | k + 1, acc, r => match rdNum r with
    | .error e => .error e
    | .ok (s, r) => if upTo (acc.map (·.1)) s then (match rdNum r with
      | .error e => .error e
      | .ok (i, r) => if i < n then rdSls n k (acc ++ [(s, i)]) r else .error 3) else .error 3
def rdCls (n : Int) : Nat → List Cl → List Int → Except Int (List Cl × List Int)
  | 0, acc, r => .ok (acc, r)
  | k + 1, acc, r => match rdNum r with
    | .error e => .error e
    | .ok (x, r) => if upTo (acc.map (·.id)) x then (match rdMany 4 r with
      | .error e => .error e
      | .ok (m, r) => if 0 < m then (match rdSls n m.toNat [] r with
        | .error e => .error e
        | .ok (ss, r) => rdCls n k (acc ++ [⟨x, ss⟩]) r) else .error 3) else .error 3
/-- The book that bytes are. -/
def getK (bs : List Int) : Except Int Bk := match rdMany 64 bs with
  | .error e => .error e
  | .ok (n, r) => match rdLfs n.toNat [] r with
    | .error e => .error e
    | .ok (L, r) => match rdMany 8 r with
      | .error e => .error e
      | .ok (m, r) => match rdCls n m.toNat [] r with
        | .error e => .error e
        | .ok (C, r) => if r = [] then .ok ⟨L, C⟩ else .error 5
def rawB (l : List Int) : List Int := numB l.length ++ l
def slotB (s : Int × Int) : List Int := numB s.1.toNat ++ numB s.2.toNat
def clB (c : Cl) : List Int := numB c.id.toNat ++ numB c.slots.length ++ c.slots.flatMap slotB
/-- A book's bytes. -/
def putK (b : Bk) : List Int := numB b.leaves.length ++ b.leaves.flatMap rawB ++ numB b.clients.length ++ b.clients.flatMap clB

/-- Slots behind those of acc that may be read. -/
def okS (n : Int) : List Int → List (Int × Int) → Bool
  | _, [] => true
  | acc, s :: r => upTo acc s.1 && decide (s.2 < n) && okS n (acc ++ [s.1]) r
def okC (n : Int) : List Int → List Cl → Bool
  | _, [] => true
  | acc, c :: r => upTo acc c.id && decide (1 ≤ c.slots.length) && decide (c.slots.length ≤ 4) && okS n [] c.slots && okC n (acc ++ [c.id]) r
/-- A book that entries may make. -/
def formedK (b : Bk) : Bool := decide (b.leaves.length ≤ 64) && b.leaves.all (fun l => decide (l.length ≤ 64)) && decide (b.clients.length ≤ 8) && okC b.leaves.length [] b.clients
/-- Numbers that 64 bits hold, bytes. -/
structure OkK (b : Bk) : Prop where
  leaves : b.leaves.length < 2 ^ 64
  each : ∀ l ∈ b.leaves, l.length < 2 ^ 64 ∧ B8 l
  clients : b.clients.length < 2 ^ 64
  cl : ∀ c ∈ b.clients, U64 c.id ∧ c.slots.length < 2 ^ 64 ∧ ∀ s ∈ c.slots, U64 s.1 ∧ U64 s.2

theorem u64_lt {n : Int} (h : U64 n) : n.toNat < 2 ^ 64 ∧ ((n.toNat : Nat) : Int) = n := by unfold U64 at h; omega
theorem rdNum_u64 {n : Int} (h : U64 n) (r : List Int) : rdNum (numB n.toNat ++ r) = .ok (n, r) := by
  have := rdNum_numB n.toNat (u64_lt h).1 r
  rwa [(u64_lt h).2] at this
theorem rdMany_put (most : Int) (n : Nat) (h : n < 2 ^ 64) (r : List Int) : rdMany most (numB n ++ r) = if most < (n : Int) then .error 4 else .ok ((n : Int), r) := by
  unfold rdMany
  rw [rdNum_numB n h]
theorem rdRaw_any (d r : List Int) (hl : d.length < 2 ^ 64) : rdRaw 64 (rawB d ++ r) = if d.length ≤ 64 then .ok (d, r) else .error 4 := by
  by_cases h : d.length ≤ 64
  · rw [if_pos h]; exact rdRaw_put d r 64 (by omega) hl
  · rw [if_neg h]
    unfold rdRaw rawB
    rw [List.append_assoc, rdNum_numB _ hl]
    simp only []
    rw [if_pos (by omega)]
theorem rdLfs_put : ∀ (L acc : List (List Int)) (r : List Int), (∀ l ∈ L, l.length < 2 ^ 64) → rdLfs L.length acc (L.flatMap rawB ++ r) = if L.all (fun l => decide (l.length ≤ 64)) then .ok (acc ++ L, r) else .error 4
  | [], acc, r, _ => by simp [rdLfs]
  | l :: L, acc, r, h => by
    rw [List.length_cons, List.flatMap_cons, List.append_assoc]
    simp only [rdLfs]
    rw [rdRaw_any l _ (h l (by simp))]
    by_cases hl : l.length ≤ 64
    · rw [if_pos hl]
      simp only []
      rw [rdLfs_put L _ _ (fun x hx => h x (by simp [hx]))]
      simp [hl]
    · rw [if_neg hl]; simp [hl]
theorem rdSls_put (n : Int) : ∀ (S acc : List (Int × Int)) (r : List Int), (∀ s ∈ S, U64 s.1 ∧ U64 s.2) → rdSls n S.length acc (S.flatMap slotB ++ r) = if okS n (acc.map (·.1)) S then .ok (acc ++ S, r) else .error 3
  | [], acc, r, _ => by simp [rdSls, okS]
  | s :: S, acc, r, h => by
    obtain ⟨h1, h2⟩ := h s (by simp)
    rw [List.length_cons, List.flatMap_cons, show slotB s ++ S.flatMap slotB ++ r = numB s.1.toNat ++ (numB s.2.toNat ++ (S.flatMap slotB ++ r)) by simp [slotB]]
    simp only [rdSls, okS]
    rw [rdNum_u64 h1]
    simp only []
    by_cases hu : upTo (acc.map (·.1)) s.1 = true
    · rw [if_pos hu, rdNum_u64 h2]
      simp only []
      by_cases hi : s.2 < n
      · rw [if_pos hi, rdSls_put n S _ _ (fun x hx => h x (by simp [hx]))]
        simp [hu, hi]
      · rw [if_neg hi]; simp [hi]
    · rw [if_neg hu]; simp [hu]
theorem rdCls_put (n : Int) : ∀ (C acc : List Cl) (r : List Int), (∀ c ∈ C, U64 c.id ∧ c.slots.length < 2 ^ 64 ∧ ∀ s ∈ c.slots, U64 s.1 ∧ U64 s.2) → if okC n (acc.map (·.id)) C then rdCls n C.length acc (C.flatMap clB ++ r) = .ok (acc ++ C, r) else ∃ e, e ≠ 0 ∧ rdCls n C.length acc (C.flatMap clB ++ r) = .error e
  | [], acc, r, _ => by simp [rdCls, okC]
  | c :: C, acc, r, h => by
    obtain ⟨h1, h2, h3⟩ := h c (by simp)
    rw [List.length_cons, List.flatMap_cons, show clB c ++ C.flatMap clB ++ r = numB c.id.toNat ++ (numB c.slots.length ++ (c.slots.flatMap slotB ++ (C.flatMap clB ++ r))) by simp [clB]]
    simp only [rdCls, okC]
    rw [rdNum_u64 h1]
    simp only []
    by_cases hu : upTo (acc.map (·.id)) c.id = true
    · rw [if_pos hu, rdMany_put 4 _ h2]
      by_cases h4 : c.slots.length ≤ 4
      · rw [if_neg (by omega)]
        simp only []
        by_cases h0 : 1 ≤ c.slots.length
        · rw [if_pos (by omega), Int.toNat_natCast, rdSls_put n c.slots [] _ h3]
          by_cases hs : okS n [] c.slots = true
          · rw [if_pos (by simpa using hs)]
            have ih := rdCls_put n C (acc ++ [c]) r (fun x hx => h x (by simp [hx]))
            rw [List.map_append, List.map_singleton] at ih
            have e : (⟨c.id, [] ++ c.slots⟩ : Cl) = c := rfl
            simp only [e, hu, h0, h4, hs, decide_true, Bool.true_and]
            simpa using ih
          · rw [if_neg (by simpa using hs)]
            simp only [hs]
            simp
        · rw [if_neg (by omega)]
          simp only [h0]
          simp
      · rw [if_pos (by omega)]
        simp only [h4]
        simp
    · rw [if_neg hu]
      simp only [hu]
      simp
/-- There. -/
theorem getK_put {b : Bk} (hb : OkK b) : if formedK b then getK (putK b) = .ok b else ∃ e, e ≠ 0 ∧ getK (putK b) = .error e := by
  have e1 : putK b = numB b.leaves.length ++ (b.leaves.flatMap rawB ++ (numB b.clients.length ++ (b.clients.flatMap clB ++ []))) := by simp [putK]
  unfold getK formedK
  rw [e1, rdMany_put 64 _ hb.leaves]
  by_cases h1 : b.leaves.length ≤ 64
  · rw [if_neg (show ¬ (64 : Int) < _ by omega)]
    simp only []
    rw [Int.toNat_natCast, rdLfs_put b.leaves [] _ (fun l hl => (hb.each l hl).1)]
    by_cases h2 : b.leaves.all (fun l => decide (l.length ≤ 64)) = true
    · rw [if_pos h2]
      simp only []
      rw [rdMany_put 8 _ hb.clients]
      by_cases h3 : b.clients.length ≤ 8
      · rw [if_neg (show ¬ (8 : Int) < _ by omega)]
        simp only []
        rw [Int.toNat_natCast]
        have h4 := rdCls_put b.leaves.length b.clients [] [] hb.cl
        simp only [List.map_nil] at h4
        by_cases h5 : okC b.leaves.length [] b.clients = true
        · rw [if_pos h5] at h4
          rw [h4]
          simp [h1, h2, h3, h5]
        · rw [if_neg h5] at h4
          obtain ⟨e, he, h4⟩ := h4
          rw [h4]
          simp only [h5]
          simpa using he
      · rw [if_pos (show (8 : Int) < _ by omega)]
        simp [h3]
    · rw [if_neg h2]
      simp only [h2]
      simp
  · rw [if_pos (show (64 : Int) < _ by omega)]
    simp [h1]
/-! ### Back -/
theorem b8_right {xs ys : List Int} (h : B8 (xs ++ ys)) : B8 ys := fun x hx => h x (List.mem_append.2 (.inr hx))
theorem rdMany_inv {most n : Int} {bs r : List Int} (hb : B8 bs) (h : rdMany most bs = .ok (n, r)) : bs = numB n.toNat ++ r ∧ 0 ≤ n ∧ n ≤ most ∧ B8 r := by
  unfold rdMany at h
  split at h
  · cases h
  · rename_i m r' heq
    split at h
    · cases h
    · rename_i hc
      cases h
      obtain ⟨e, h1, h2⟩ := rdNum_inv bs _ _ hb heq
      exact ⟨e, h1, by omega, by rw [e] at hb; exact b8_right hb⟩
theorem rdRaw_back {bs d r : List Int} (hb : B8 bs) (h : rdRaw 64 bs = .ok (d, r)) : bs = rawB d ++ r ∧ d.length ≤ 64 ∧ B8 d ∧ B8 r := by
  simp only [rdRaw] at h
  split at h
  · cases h
  · rename_i n r' heq
    obtain ⟨e, h2, h3⟩ := rdNum_inv bs _ _ hb heq
    split at h
    · cases h
    · rename_i hc
      split at h
      · cases h
      · rename_i hd
        cases h
        have hl : (r'.take n.toNat).length = n.toNat := by rw [List.length_take]; omega
        have hr : B8 r' := by rw [e] at hb; exact b8_right hb
        refine ⟨?_, by rw [hl]; omega, fun x hx => hr x (List.mem_of_mem_take hx), fun x hx => hr x (List.mem_of_mem_drop hx)⟩
        unfold rawB
        rw [hl, e, List.append_assoc, List.take_append_drop]
theorem rdLfs_inv : ∀ (k : Nat) (acc L : List (List Int)) (bs r : List Int), B8 bs → rdLfs k acc bs = .ok (L, r) → ∃ M, L = acc ++ M ∧ M.length = k ∧ bs = M.flatMap rawB ++ r ∧ B8 r ∧ ∀ l ∈ M, l.length ≤ 64 ∧ B8 l
  | 0, acc, L, bs, r, hb, h => by
    simp only [rdLfs] at h; cases h
    exact ⟨[], by simp, rfl, by simp, hb, by simp⟩
  | k + 1, acc, L, bs, r, hb, h => by
    simp only [rdLfs] at h
    split at h
    · cases h
    · rename_i l r' heq
      obtain ⟨e, h1, h2, h3⟩ := rdRaw_back hb heq
      obtain ⟨M, e1, e2, e3, e4, e5⟩ := rdLfs_inv k _ _ _ _ h3 h
      refine ⟨l :: M, by rw [e1]; simp, by simp [e2], by rw [e, e3]; simp, e4, fun x hx => ?_⟩
      rcases List.mem_cons.1 hx with rfl | hx
      · exact ⟨h1, h2⟩
      · exact e5 x hx
theorem rdSls_inv (n : Int) : ∀ (k : Nat) (acc S : List (Int × Int)) (bs r : List Int), B8 bs → rdSls n k acc bs = .ok (S, r) → ∃ M, S = acc ++ M ∧ M.length = k ∧ bs = M.flatMap slotB ++ r ∧ B8 r ∧ okS n (acc.map (·.1)) M = true ∧ ∀ s ∈ M, U64 s.1 ∧ U64 s.2
  | 0, acc, S, bs, r, hb, h => by
    simp only [rdSls] at h; cases h
    exact ⟨[], by simp, rfl, by simp, hb, rfl, by simp⟩
  | k + 1, acc, S, bs, r, hb, h => by
    simp only [rdSls] at h
    split at h
    · cases h
    · rename_i s r1 heq
      obtain ⟨e, a1, a2⟩ := rdNum_inv bs _ _ hb heq
      have hb1 : B8 r1 := by rw [e] at hb; exact b8_right hb
      split at h
      · rename_i hu
        split at h
        · cases h
        · rename_i i r2 heq2
          obtain ⟨e', b1, b2⟩ := rdNum_inv r1 _ _ hb1 heq2
          have hb2 : B8 r2 := by rw [e'] at hb1; exact b8_right hb1
          split at h
          · rename_i hi
            obtain ⟨M, e1, e2, e3, e4, e5, e6⟩ := rdSls_inv n k _ _ _ _ hb2 h
            refine ⟨(s, i) :: M, by rw [e1]; simp, by simp [e2], by rw [e, e', e3]; simp [slotB], e4, ?_, fun x hx => ?_⟩
            · rw [List.map_append, List.map_singleton] at e5
              simp only [okS, hu, hi, e5, decide_true, Bool.true_and]
            · rcases List.mem_cons.1 hx with rfl | hx
              · exact ⟨by unfold U64; dsimp only; omega, by unfold U64; dsimp only; omega⟩
              · exact e6 x hx
          · cases h
      · cases h
theorem rdCls_inv (n : Int) : ∀ (k : Nat) (acc C : List Cl) (bs r : List Int), B8 bs → rdCls n k acc bs = .ok (C, r) → ∃ M, C = acc ++ M ∧ M.length = k ∧ bs = M.flatMap clB ++ r ∧ B8 r ∧ okC n (acc.map (·.id)) M = true ∧ ∀ c ∈ M, U64 c.id ∧ c.slots.length < 2 ^ 64 ∧ ∀ s ∈ c.slots, U64 s.1 ∧ U64 s.2
  | 0, acc, C, bs, r, hb, h => by
    simp only [rdCls] at h; cases h
    exact ⟨[], by simp, rfl, by simp, hb, rfl, by simp⟩
  | k + 1, acc, C, bs, r, hb, h => by
    simp only [rdCls] at h
    split at h
    · cases h
    · rename_i x r1 heq
      obtain ⟨e, a1, a2⟩ := rdNum_inv bs _ _ hb heq
      have hb1 : B8 r1 := by rw [e] at hb; exact b8_right hb
      split at h
      · rename_i hu
        split at h
        · cases h
        · rename_i m r2 heq2
          obtain ⟨e', b1, b2, hb2⟩ := rdMany_inv hb1 heq2
          split at h
          · rename_i hm
            split at h
            · cases h
            · rename_i ss r3 heq3
              obtain ⟨S, f1, f2, f3, f4, f5, f6⟩ := rdSls_inv n _ _ _ _ _ hb2 heq3
              simp only [List.nil_append] at f1
              subst f1
              obtain ⟨M, e1, e2, e3, e4, e5, e6⟩ := rdCls_inv n k _ _ _ _ f4 h
              have hm2 : m = (ss.length : Int) := by omega
              refine ⟨⟨x, ss⟩ :: M, by rw [e1]; simp, by simp [e2], by rw [e, e', f3, e3, hm2]; simp [clB], e4, ?_, fun c hc => ?_⟩
              · rw [List.map_append, List.map_singleton] at e5
                simp only [List.map_nil] at f5
                simp only [okC, hu, f5, e5, Bool.true_and, Bool.and_true, Bool.and_eq_true, decide_eq_true_eq]
                omega
              · rcases List.mem_cons.1 hc with rfl | hc
                · exact ⟨by unfold U64; dsimp only; omega, by dsimp only; omega, f6⟩
                · exact e6 c hc
          · cases h
      · cases h
/-- Back. -/
theorem getK_inv {bs : List Int} {b : Bk} (hb : B8 bs) (h : getK bs = .ok b) : bs = putK b ∧ formedK b = true ∧ OkK b := by
  unfold getK at h
  split at h
  · cases h
  · rename_i n r1 heq1
    obtain ⟨e1, n1, n2, hb1⟩ := rdMany_inv hb heq1
    split at h
    · cases h
    · rename_i L r2 heq2
      obtain ⟨L', f1, f2, f3, hb2, f5⟩ := rdLfs_inv _ _ _ _ _ hb1 heq2
      simp only [List.nil_append] at f1
      subst f1
      split at h
      · cases h
      · rename_i m r3 heq3
        obtain ⟨e3, m1, m2, hb3⟩ := rdMany_inv hb2 heq3
        split at h
        · cases h
        · rename_i C r4 heq4
          obtain ⟨C', g1, g2, g3, -, g5, g6⟩ := rdCls_inv n _ _ _ _ _ hb3 heq4
          simp only [List.nil_append] at g1
          subst g1
          split at h
          · rename_i hr
            cases h
            subst hr
            have hn : n = (L.length : Int) := by omega
            have hm : m = (C.length : Int) := by omega
            refine ⟨?_, ?_, ⟨by dsimp only; omega, fun l hl => ⟨by have := (f5 l hl).1; omega, (f5 l hl).2⟩, by dsimp only; omega, g6⟩⟩
            · rw [e1, f3, e3, g3, hn, hm]; simp [putK]
            · simp only [List.map_nil] at g5
              rw [hn] at g5
              simp only [formedK, Bool.and_eq_true, decide_eq_true_eq, List.all_eq_true]
              exact ⟨⟨⟨by omega, fun l hl => (f5 l hl).1⟩, by omega⟩, g5⟩
          · cases h
/-! ### What is read is an error's number or none -/
theorem upTo_snoc (acc : List Int) (x : Int) : (acc ++ [x]).Pairwise (· < ·) ↔ acc.Pairwise (· < ·) ∧ upTo acc x = true := by
  rw [List.pairwise_append]
  constructor
  · rintro ⟨h1, -, h3⟩
    refine ⟨h1, ?_⟩
    unfold upTo
    cases hl : acc.getLast? with
    | none => rfl
    | some y => simpa using h3 y (List.mem_of_getLast? hl) x (by simp)
  · rintro ⟨h1, h2⟩
    refine ⟨h1, by simp, fun a ha b hb => ?_⟩
    rw [List.mem_singleton.1 hb]
    unfold upTo at h2
    rcases List.eq_nil_or_concat acc with hn | ⟨l, y, hy⟩
    · subst hn; cases ha
    · rw [List.concat_eq_append] at hy
      subst hy
      rw [List.getLast?_concat] at h2
      have hyx : y < x := by simpa using h2
      rw [List.pairwise_append] at h1
      rcases List.mem_append.1 ha with h | h
      · have := h1.2.2 a h y (by simp); omega
      · rw [List.mem_singleton.1 h]; exact hyx
theorem okS_iff (n : Int) : ∀ (S : List (Int × Int)) (acc : List Int), acc.Pairwise (· < ·) → (okS n acc S = true ↔ (acc ++ S.map (·.1)).Pairwise (· < ·) ∧ ∀ s ∈ S, s.2 < n)
  | [], acc, h => by simp [okS, h]
  | s :: S, acc, h => by
    simp only [okS, Bool.and_eq_true, decide_eq_true_eq]
    by_cases hu : upTo acc s.1 = true
    · have h' := (upTo_snoc acc s.1).2 ⟨h, hu⟩
      rw [okS_iff n S _ h', List.map_cons, List.append_assoc]
      simp only [hu, true_and, List.singleton_append, List.mem_cons, forall_eq_or_imp]
      exact ⟨fun ⟨a, b, c⟩ => ⟨b, a, c⟩, fun ⟨a, b, c⟩ => ⟨b, a, c⟩⟩
    · constructor
      · rintro ⟨⟨a, _⟩, _⟩; exact absurd a hu
      · rintro ⟨a, _⟩
        rw [List.map_cons, show acc ++ s.1 :: S.map (·.1) = (acc ++ [s.1]) ++ S.map (·.1) by simp] at a
        exact absurd ((upTo_snoc acc s.1).1 (List.pairwise_append.1 a).1).2 hu
theorem okC_iff (n : Int) : ∀ (C : List Cl) (acc : List Int), acc.Pairwise (· < ·) → (okC n acc C = true ↔ (acc ++ C.map (·.id)).Pairwise (· < ·) ∧ ∀ c ∈ C, 1 ≤ c.slots.length ∧ c.slots.length ≤ 4 ∧ (c.slots.map (·.1)).Pairwise (· < ·) ∧ ∀ s ∈ c.slots, s.2 < n)
  | [], acc, h => by simp [okC, h]
  | c :: C, acc, h => by
    simp only [okC, Bool.and_eq_true, decide_eq_true_eq]
    rw [okS_iff n c.slots [] List.Pairwise.nil, List.nil_append]
    by_cases hu : upTo acc c.id = true
    · have h' := (upTo_snoc acc c.id).2 ⟨h, hu⟩
      rw [okC_iff n C _ h', List.map_cons, List.append_assoc]
      simp only [hu, true_and, List.singleton_append, List.mem_cons, forall_eq_or_imp]
      exact ⟨fun ⟨⟨⟨a, b⟩, c, d⟩, e, f⟩ => ⟨e, ⟨a, b, c, d⟩, f⟩, fun ⟨e, ⟨a, b, c, d⟩, f⟩ => ⟨⟨⟨a, b⟩, c, d⟩, e, f⟩⟩
    · constructor
      · rintro ⟨⟨⟨⟨a, _⟩, _⟩, _⟩, _⟩; exact absurd a hu
      · rintro ⟨a, _⟩
        rw [List.map_cons, show acc ++ c.id :: C.map (·.id) = (acc ++ [c.id]) ++ C.map (·.id) by simp] at a
        exact absurd ((upTo_snoc acc c.id).1 (List.pairwise_append.1 a).1).2 hu
end Go.Proofs.Ytgefphfnicjbiaa
