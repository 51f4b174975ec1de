/- Parts of the proof, in plain words at the head of each: PutA, EntB, Rfi, EntC, Rrd, Ents, EntU, Esl, Mr1, Mr2. -/
import Derived.Test.YtjodgbabfhcilaaBun3
import Derived.Test.YtjodgbabfhcilaaSame
import Derived.Test.YtjodgbabfhcilaaBun2
import Derived.Test.YtjodgbabfhcilaaBun1
import Derived.IntWalk
import Derived.Test.YtjodgbabfhcilaaRfw
import Derived.Maps.AppendAt
import Derived.Test.YtjodgbabfhcilaaMono
set_option linter.unusedSimpArgs false
set_option linter.unusedVariables false
/- What Put answers of any entry. -/
namespace Go.Proofs.Ytjodgbabfhcilaa
open Go Go.RowKit

/-- What Put answers of any entry. -/
def errB (x : Ent) : Int := if formedB x then 0 else 1
def bytesB (x : Ent) : List Int := if formedB x then putB x else []
def RetPut (x : Ent) (w : World) (e : Ending) (w' : World) : Prop := ∃ b, e = .returned (.tuple #[b, .int .i64 (errB x)]) ∧ Rd w' b (u8s (bytesB x)) ∧ Ext w w'
theorem put_any (v : Value) (x : Ent) (w : World) (hv : EntV w v x) (hok : EntOk x) : Calls Try.prog 76 #[v] w (RetPut x w) := by
  cases hf : formedB x with
  | false => exact (put_none v x w hv hok hf).mono fun e w' ⟨he, hE⟩ => ⟨.slice none 0 0, by rw [he]; simp [errB, hf], by simp [bytesB, hf, u8s]; exact Rd.nil _, hE⟩
  | true => exact (put_ret v x w hv hok hf).mono fun e w' ⟨b, he, ho, hE⟩ => ⟨b, by rw [he]; simp [errB, hf], by simp [bytesB, hf]; exact Rd.of_own ho, hE⟩
theorem el64 : ElT Try.prog 31 29 (.int .u64 0) 8 := ElT.mk' Try.underlying31 (by kernel_rfl) rfl
theorem rd_mark (w : World) (l : List Value) (e : TypeId) (fr : Nat × Nat) (he : l.length ≤ maxLen) : Rd (w.alloc (.cells l.toArray e fr)) (.slice (some ⟨w.heap.size, 0, none⟩) l.length l.length) l := by
  refine ⟨_, _, rfl, Nat.le_refl _, he, .inr ⟨w.heap.size, 0, rfl, fun j u hj => ?_⟩⟩
  rw [Nat.zero_add, cell_of_row _ w.heap.size j l.toArray e fr (heap_alloc_new w _)]
  simpa using hj
end Go.Proofs.Ytjodgbabfhcilaa

/- Plain facts of entries and their bytes. -/
namespace Go.Proofs.Ytjodgbabfhcilaa
open Go Go.RowKit

theorem EntOk.fit {x : Ent} (h : EntOk x) : EntFit x := by
  obtain ⟨_, _, ⟨c0, c1⟩, ⟨s0, s1⟩, _, _⟩ := h
  exact ⟨⟨c0, by omega⟩, s0, by omega⟩
theorem B8.append {a b : List Int} (h : B8 a) (k : B8 b) : B8 (a ++ b) := fun x hx => by rcases List.mem_append.1 hx with hx | hx; exact h x hx; exact k x hx
theorem putB_B8 (x : Ent) (h : EntOk x) : B8 (putB x) := by
  unfold putB
  refine B8.append (B8.append (numB_bound _) (by intro y hy; simp at hy; omega)) ?_
  split
  · exact B8.append (B8.append (numB_bound _) (numB_bound _)) (B8.append (numB_bound _) h.data)
  · split
    · refine B8.append (numB_bound _) fun y hy => ?_
      obtain ⟨m, _, hm⟩ := List.mem_flatMap.1 hy
      exact numB_bound _ y hm
    · intro y hy; simp at hy
theorem bytesB_B8 (x : Ent) (h : EntOk x) : B8 (bytesB x) := by
  unfold bytesB
  split
  · exact putB_B8 x h
  · intro y hy; simp at hy
theorem sameB_comm (x y : Ent) : sameB y x = sameB x y := by
  rw [Bool.eq_iff_iff, sameB_iff, sameB_iff]; exact eq_comm
theorem sameB_self (x : Ent) : sameB x x = true := (sameB_iff x x).2 rfl
theorem own_block {w : World} {base : Nat} {e : TypeId} {sz : Nat} {v : Value} {n : Nat} {xs : List Value} (h : w.ownsRow base e sz v n xs) : ∀ k, v.ownBlock = some k → base ≤ k := by
  intro k hk
  rcases h.2 with ⟨rfl, _⟩ | ⟨g, cap, cur, rfl, hg, _⟩
  · simp [Value.ownBlock] at hk
  · simp [Value.ownBlock] at hk; omega
theorem numB_len_le (n : Nat) : (numB n).length ≤ 9 := by rw [numB_len]; have := numK_le n; omega
theorem flat_len : ∀ (ms : List Int), (ms.flatMap (fun m => numB m.toNat)).length ≤ 9 * ms.length
  | [] => by simp
  | m :: ms => by
    have := numB_len_le m.toNat
    have := flat_len ms
    simp only [List.flatMap_cons, List.length_append, List.length_cons]; omega
theorem putB_len (x : Ent) (hf : formedB x = true) : 1 ≤ (putB x).length ∧ (putB x).length ≤ 200 := by
  obtain ⟨_, hc⟩ := formed_cases x hf
  have h1 := numB_len_le x.term.toNat
  have h2 := numB_len_le x.client.toNat
  have h3 := numB_len_le x.seq.toNat
  have h4 := numB_len_le x.data.length
  have h5 := numB_len_le x.members.length
  have h6 := flat_len x.members
  have h7 : x.members.length ≤ 7 ∨ x.kind ≠ 3 := by
    rcases hc with ⟨hk, _⟩ | ⟨hk, _⟩ | ⟨_, _, _, _, hm⟩
    · right; omega
    · right; omega
    · left
      rcases memGo_len x.members 0 (by omega) hm with h | h
      · omega
      · rw [h]; simp
  have h8 : x.data.length ≤ 64 ∨ x.kind ≠ 2 := by
    rcases hc with ⟨hk, _⟩ | ⟨_, hd, _⟩ | ⟨hk, _⟩
    · right; omega
    · left; exact hd
    · right; omega
  simp only [putB]
  split
  · simp only [List.length_append, List.length_cons, List.length_nil]; omega
  · split
    · simp only [List.length_append, List.length_cons, List.length_nil]; omega
    · simp only [List.length_append, List.length_cons, List.length_nil]; omega
theorem rem_at (a : Int) (n : Nat) (h : 1 ≤ n ∧ n ≤ 200) : ∃ m : Nat, wrap64 ((IntKind.u64.wrap a).tmod (n : Int)) = (m : Int) ∧ m < n := by
  have h0 : 0 ≤ IntKind.u64.wrap a ∧ IntKind.u64.wrap a < 18446744073709551616 := by
    simp only [IntKind.wrap, IntKind.signed, IntKind.bits]
    simp
    omega
  generalize IntKind.u64.wrap a = u at *
  rw [Int.tmod_eq_emod_of_nonneg h0.1]
  have h1 := Int.emod_nonneg u (show (n : Int) ≠ 0 by omega)
  have h2 := Int.emod_lt_of_pos u (show (0 : Int) < n by omega)
  obtain ⟨m, hm⟩ := Int.eq_ofNat_of_zero_le h1
  refine ⟨m, ?_, by omega⟩
  rw [hm]
  exact IntWalk.wrap64_in _ ⟨by omega, by omega⟩
end Go.Proofs.Ytjodgbabfhcilaa

/- tabellionref12.Ids. -/
namespace Go.Proofs.Ytjodgbabfhcilaa
open Go Go.RowKit

/-- rising from l on, none above 7 -/
def chk (l : Int) : List Int → Bool
  | [] => true
  | x :: r => !(decide (x ≤ l) || decide (7 < x)) && chk x r
theorem chk_snoc : ∀ (xs : List Int) (l m : Int), chk l (xs ++ [m]) = (chk l xs && !(decide (m ≤ xs.getLastD l) || decide (7 < m)))
  | [], l, m => by simp [chk]
  | x :: r, l, m => by
    simp only [List.cons_append, chk]
    have e : (x :: r).getLastD l = r.getLastD x := by cases r <;> rfl
    rw [chk_snoc r x m, e, Bool.and_assoc]
theorem memGo_chk : ∀ (xs : List Int) (l : Int), memGo l xs = (chk l xs && decide (0 < xs.getLastD l))
  | [], l => by simp [memGo, chk]
  | x :: r, l => by
    simp only [memGo, chk]
    have e : (x :: r).getLastD l = r.getLastD x := by cases r <;> rfl
    rw [memGo_chk r x, e, Bool.and_assoc]
theorem members_snoc (acc : List Int) (m : Int) (h : chk 0 acc = true) (h0 : 0 ≤ acc.getLastD 0) : membersB (acc ++ [m]) = !(decide (m ≤ acc.getLastD 0) || decide (7 < m)) := by
  unfold membersB
  rw [memGo_chk, chk_snoc, h]
  have e : (acc ++ [m]).getLastD 0 = m := by simp [List.getLastD_eq_getLast?]
  rw [e]
  generalize acc.getLastD 0 = g at *
  rw [Bool.eq_iff_iff]
  simp
  omega

/-- A slice in memory that w had not. -/
def New64 (w : World) (xs : List Int) (v : Value) (w' : World) : Prop := Rd w' v (u64s xs) ∧ ∀ a n c, v = .slice (some a) n c → w.heap.size ≤ a.block
def idsB (bs : List Int) : Except Int (List Int × List Int) :=
  match rdNum bs with
  | .error e => .error e
  | .ok (n, r) => if n < 1 ∨ 7 < n then .error 3 else rdIds n.toNat [] r
theorem own_growR {w w' : World} {base : Nat} {e : TypeId} {size : Nat} {v : Value} {n : Nat} {xs : List Value} {b : Nat} (h : w.ownsRow base e size v n xs) (hg : w.grownBy w' (some b)) (hb : b < base) : w'.ownsRow base e size v n xs := by
  obtain ⟨h1, h2⟩ := h
  refine ⟨h1, ?_⟩
  rcases h2 with h2 | ⟨g, cap, cur, hv, hg', hh, r⟩
  · exact .inl h2
  · exact .inr ⟨g, cap, cur, hv, hg', (hg.block g (Array.getElem?_eq_some_iff.1 hh).1 (by intro e; cases e; omega)).trans hh, r⟩

theorem Rd.off_new {w : World} {v : Value} {cs : List Value} (h : Rd w v cs) {row : Option Nat} (hr : ∀ k, row = some k → w.heap.size ≤ k) : Off v cs row := by
  intro p n c hv hne e
  obtain ⟨a, c', hv', _, _, h3⟩ := h
  rcases h3 with h3 | ⟨b, o, rfl, hc⟩
  · exact hne h3
  · rw [hv] at hv'
    cases hv'
    cases cs with
    | nil => exact hne rfl
    | cons u us =>
      have := World.block_lt_of_cell? w _ (hc 0 u rfl)
      have := hr _ e.symm
      simp at *
      omega
end Go.Proofs.Ytjodgbabfhcilaa

/- Entries that were read. -/
namespace Go.Proofs.Ytjodgbabfhcilaa
open Go Go.RowKit

theorem EntOk.zero : EntOk ⟨0, 0, 0, 0, [], []⟩ := ⟨by unfold U64; simp, by simp, by unfold U64; simp, by unfold U64; simp, (by intro y hy; simp at hy), (by intro y hy; simp at hy)⟩
theorem getB_ok {bs : List Int} {x : Ent} (hb : B8 bs) (h : getB bs = .ok x) : EntOk x := by
  obtain ⟨hp, hf, hx⟩ := getB_inv bs x hb h
  obtain ⟨⟨t0, t1⟩, hc⟩ := formed_cases x hf
  obtain ⟨⟨c0, c1⟩, s0, s1⟩ := hx
  have hd : B8 x.data := by
    rcases hc with ⟨_, _, _, hd, _⟩ | ⟨hk, _, _⟩ | ⟨_, _, _, hd, _⟩
    · rw [hd]; intro y hy; cases hy
    · intro y hy
      refine hb y ?_
      rw [← hp]
      simp only [putB, hk, if_true]
      simp [hy]
    · rw [hd]; intro y hy; cases hy
  have hm : B64 x.members := by
    rcases hc with ⟨_, _, _, _, hm⟩ | ⟨_, _, hm⟩ | ⟨_, _, _, _, hm⟩
    · rw [hm]; intro y hy; cases hy
    · rw [hm]; intro y hy; cases hy
    · intro y hy
      have := memGo_mem x.members 0 (by omega) hm y hy
      exact ⟨by omega, by omega⟩
  have hk : -9223372036854775808 ≤ x.kind ∧ x.kind ≤ 9223372036854775807 := by
    rcases hc with ⟨hk, _⟩ | ⟨hk, _⟩ | ⟨hk, _⟩ <;> omega
  exact ⟨⟨by omega, by omega⟩, hk, ⟨by omega, by omega⟩, ⟨by omega, by omega⟩, hd, hm⟩
/-- An entry whose lists lie in new blocks stays while an elder block alone turns. -/
theorem EntV.elder {w W W' : World} {v : Value} {x : Ent} {g : Nat} (h : EntV W v x) (hn : EntNew w v) (hg : W.grownBy W' (some g)) (hlt : g < w.heap.size) : EntV W' v x := by
  obtain ⟨dv, mv, rfl, h1, h2⟩ := h
  obtain ⟨_, _, _, _, dv', mv', he, n1, n2⟩ := hn
  cases he
  exact ⟨_, _, rfl, h1.grown hg fun a n c hv _ e => by have := n1 a n c hv; cases e; omega, h2.grown hg fun a n c hv _ e => by have := n2 a n c hv; cases e; omega⟩
theorem EntV.shape {w : World} {v : Value} {x : Ent} (h : EntV w v x) : ∃ a n c a' n' c', v = .agg #[.int .u64 x.term, .int .i64 x.kind, .int .u64 x.client, .int .u64 x.seq, .slice a n c, .slice a' n' c'] := by
  obtain ⟨dv, mv, rfl, h1, h2⟩ := h
  obtain ⟨a, n, c, rfl⟩ := Rd.shape h1
  obtain ⟨a', n', c', rfl⟩ := Rd.shape h2
  exact ⟨_, _, _, _, _, _, rfl⟩
end Go.Proofs.Ytjodgbabfhcilaa

/- tabellionref12.Read. -/
namespace Go.Proofs.Ytjodgbabfhcilaa
open Go Go.RowKit

abbrev zeros : Array Value := #[.int .u64 0, .int .i64 0, .int .u64 0, .int .u64 0, .slice none 0 0, .slice none 0 0]
section
variable {w W W' : World} {b : Nat} {v : Value} {full : List Int} {a a' : Nat} {e e' : Int} {cs : Array Value}
end
theorem grown_six {w W : World} {b : Nat} (h : w.grownBy W (some b)) (u0 u1 u2 u3 u4 u5 : Value) :
    w.grownBy ((((((W.setCell ⟨w.heap.size, 0, none⟩ u0).setCell ⟨w.heap.size, 1, none⟩ u1).setCell ⟨w.heap.size, 2, none⟩ u2).setCell ⟨w.heap.size, 3, none⟩ u3).setCell ⟨w.heap.size, 4, none⟩ u4).setCell ⟨w.heap.size, 5, none⟩ u5) (some b) := by
  have g : ∀ {W' : World} (j : Nat) (u : Value), w.grownBy W' (some b) → w.grownBy (W'.setCell ⟨w.heap.size, j, none⟩ u) (some b) := fun j u h => grown_trans h (grown_set _ _ j u) (.inr fun i hi => by cases hi; exact Nat.le_refl _)
  exact g _ _ (g _ _ (g _ _ (g _ _ (g _ _ (g _ _ h)))))
structure RSD (w W : World) (b : Nat) (cs : Array Value) : Prop where
  g : w.grownBy W (some b)
  res : Blk W w.heap.size #[.int .u64 0, .int .i64 0, .int .u64 0, .int .u64 0, .slice none 0 0, .slice none 0 0] 67
  x : Blk W (w.heap.size + 1) cs 67
theorem RSD.setx {w W : World} {b : Nat} {cs : Array Value} (h : RSD w W b cs) (j : Nat) (u : Value) : RSD w (W.setCell ⟨w.heap.size + 1, j, none⟩ u) b (cs.setIfInBounds j u) :=
  ⟨grown_trans h.g (grown_set W _ j u) (.inr fun i hi => by cases hi; omega), h.res.other _ _ (by simp), h.x.set j u⟩
theorem rdByte_err' {bs : List Int} {e : Int} (h : rdByte bs = .error e) : e ≠ 0 := by
  cases bs with
  | nil => simp [rdByte] at h; omega
  | cons k r => simp [rdByte] at h
theorem rdRaw_err' {most : Int} {bs : List Int} {e : Int} (h : rdRaw most bs = .error e) : e ≠ 0 := by
  simp only [rdRaw] at h
  split at h
  · rename_i heq; cases h; exact rdNum_err' heq
  · split at h
    · cases h; decide
    · split at h
      · cases h; decide
      · cases h
theorem rdIds_err' : ∀ (n : Nat) (acc bs : List Int) (e : Int), rdIds n acc bs = .error e → e ≠ 0
  | 0, _, _, _, h => by simp [rdIds] at h
  | n + 1, acc, bs, e, h => by
    simp only [rdIds] at h
    split at h
    · rename_i heq; cases h; exact rdNum_err' heq
    · split at h
      · exact rdIds_err' n _ _ _ h
      · cases h; decide
theorem idsB_err' {bs : List Int} {e : Int} (h : idsB bs = .error e) : e ≠ 0 := by
  simp only [idsB] at h
  split at h
  · rename_i heq; cases h; exact rdNum_err' heq
  · split at h
    · cases h; decide
    · exact rdIds_err' _ _ _ _ h
theorem rdEnt_k3 {bs r1 r2 : List Int} {t : Int} (h1 : rdNum bs = .ok (t, r1)) (ht : ¬ (t < 1 ∨ 4611686018427387904 < t)) (h2 : rdByte r1 = .ok (3, r2)) :
    rdEnt bs = match idsB r2 with | .error e => .error e | .ok (ms, r) => .ok (⟨t, 3, 0, 0, [], ms⟩, r) := by
  simp only [rdEnt, h1, if_neg ht, h2, idsB]
  simp only [show ¬ ((3 : Int) = 1) by decide, show ¬ ((3 : Int) = 2) by decide, if_false, if_true]
  cases h3 : rdNum r2 with
  | error e => rfl
  | ok y =>
    obtain ⟨n, r⟩ := y
    simp only []
    split
    · rfl
    · rfl
end Go.Proofs.Ytjodgbabfhcilaa

/- Lists of entries in memory. -/
namespace Go.Proofs.Ytjodgbabfhcilaa
open Go Go.RowKit

/-- A list that lies in blocks from B on, in another than o. -/
def LV (w : World) (B : Nat) (o : Option Nat) (v : Value) (cs : List Value) : Prop := Rd w v cs ∧ From B v ∧ OffL v cs o.toList
section
variable {w w' : World} {B : Nat} {o o' : Option Nat} {v : Value} {cs : List Value} {S : List Nat}
theorem LV.nil (w : World) (B : Nat) (o : Option Nat) : LV w B o (.slice none 0 0) [] := ⟨Rd.nil w, From.nil B, fun _ _ _ h => by cases h⟩
theorem LV.chg (h : LV w B o v cs) (hg : Chg S w w') (hS : ∀ t ∈ S, t < B ∨ o = some t) : LV w' B o v cs :=
  ⟨h.1.chg hg fun a n c hv hn hm => by
    rcases hS _ hm with h1 | h1
    · have := h.2.1 a n c hv; omega
    · exact h.2.2 a n c hv hn (by rw [h1]; simp), h.2⟩
theorem Rd.lt {w : World} {v : Value} {cs : List Value} (h : Rd w v cs) {a : Addr} {n c : Nat} (hv : v = .slice (some a) n c) (hn : cs ≠ []) : a.block < w.heap.size := by
  obtain ⟨a', c', hv', h1, h2, h3⟩ := h
  rcases h3 with h3 | ⟨b, o, rfl, hc⟩
  · exact absurd h3 hn
  · rw [hv] at hv'
    cases hv'
    cases cs with
    | nil => exact absurd rfl hn
    | cons u r => exact World.block_lt_of_cell? w ⟨b, o + 0, none⟩ (hc 0 u rfl)
theorem LV.row (h : LV w B o v cs) (ho : o' = o ∨ ∃ k, o' = some k ∧ w.heap.size ≤ k) : LV w B o' v cs := by
  refine ⟨h.1, h.2.1, ?_⟩
  rcases ho with rfl | ⟨k, rfl, hk⟩
  · exact h.2.2
  · intro a n c hv hn hm
    simp at hm
    have := h.1.lt hv hn
    omega
end
def eCells (x : Ent) (dv mv : Value) : List Value := [.int .u64 x.term, .int .i64 x.kind, .int .u64 x.client, .int .u64 x.seq, dv, mv]
/-- The cells of a list of entries. -/
def ECs (w : World) (B : Nat) (o : Option Nat) : List Ent → List Value → Prop
  | [], cs => cs = []
  | x :: r, cs => ∃ dv mv rest, cs = eCells x dv mv ++ rest ∧ LV w B o dv (u8s x.data) ∧ LV w B o mv (u64s x.members) ∧ ECs w B o r rest
section
variable {w w' : World} {B : Nat} {o o' : Option Nat} {S : List Nat}
theorem ECs.chg : ∀ {xs : List Ent} {cs : List Value}, ECs w B o xs cs → Chg S w w' → (∀ t ∈ S, t < B ∨ o = some t) → ECs w' B o xs cs
  | [], _, h, _, _ => h
  | _ :: _, _, ⟨dv, mv, rest, e, h1, h2, h3⟩, hg, hS => ⟨dv, mv, rest, e, h1.chg hg hS, h2.chg hg hS, h3.chg hg hS⟩
theorem ECs.row : ∀ {xs : List Ent} {cs : List Value}, ECs w B o xs cs → (o' = o ∨ ∃ k, o' = some k ∧ w.heap.size ≤ k) → ECs w B o' xs cs
  | [], _, h, _ => h
  | _ :: _, _, ⟨dv, mv, rest, e, h1, h2, h3⟩, ho => ⟨dv, mv, rest, e, h1.row ho, h2.row ho, h3.row ho⟩
theorem LV.step {v : Value} {cs : List Value} (h : LV w B o v cs) (hg : Chg o.toList w w') (ho : o' = o ∨ ∃ k, o' = some k ∧ w.heap.size ≤ k) : LV w' B o' v cs :=
  ⟨(h.chg hg fun t ht => by cases o with | none => simp at ht | some q => simp at ht; subst ht; exact .inr rfl).1, h.2.1, (h.row ho).2.2⟩
theorem ECs.step : ∀ {xs : List Ent} {cs : List Value}, ECs w B o xs cs → Chg o.toList w w' → (o' = o ∨ ∃ k, o' = some k ∧ w.heap.size ≤ k) → ECs w' B o' xs cs
  | [], _, h, _, _ => h
  | _ :: _, _, ⟨dv, mv, rest, e, h1, h2, h3⟩, hg, ho => ⟨dv, mv, rest, e, h1.step hg ho, h2.step hg ho, h3.step hg ho⟩
theorem ECs.push : ∀ {xs : List Ent} {cs : List Value} {x : Ent} {dv mv : Value}, ECs w B o xs cs → LV w B o dv (u8s x.data) → LV w B o mv (u64s x.members) → ECs w B o (xs ++ [x]) (cs ++ eCells x dv mv)
  | [], _, x, dv, mv, h, h1, h2 => by cases h; exact ⟨dv, mv, [], by simp, h1, h2, rfl⟩
  | _ :: _, _, x, dv, mv, ⟨dv', mv', rest, e, k1, k2, k3⟩, h1, h2 => ⟨dv', mv', rest ++ eCells x dv mv, by rw [e]; simp, k1, k2, k3.push h1 h2⟩
theorem ECs.len : ∀ {xs : List Ent} {cs : List Value}, ECs w B o xs cs → cs.length = xs.length * 6
  | [], _, h => by cases h; rfl
  | _ :: r, _, ⟨dv, mv, rest, e, _, _, h3⟩ => by rw [e]; simp [eCells, h3.len]; omega
end
theorem own_chg {S : List Nat} {w w' : World} {base : Nat} {e : TypeId} {size : Nat} {v : Value} {n : Nat} {xs : List Value} (h : w.ownsRow base e size v n xs) (hg : Chg S w w') (hS : ∀ t ∈ S, t < base ∨ w.heap.size ≤ t) : w'.ownsRow base e size v n xs := by
  obtain ⟨h1, h2⟩ := h
  refine ⟨h1, ?_⟩
  rcases h2 with h2 | ⟨g, cap, cur, hv, hg', hh, r⟩
  · exact .inl h2
  · have hl := (Array.getElem?_eq_some_iff.1 hh).1
    exact .inr ⟨g, cap, cur, hv, hg', (hg.block g hl fun hm => by rcases hS _ hm with h3 | h3 <;> omega).trans hh, r⟩
theorem own_shape {w : World} {base : Nat} {e : TypeId} {size : Nat} {v : Value} {n : Nat} {xs : List Value} (h : w.ownsRow base e size v n xs) : ∃ a m c, v = .slice a m c := by
  rcases h.2 with ⟨h1, _⟩ | ⟨g, cap, cur, hv, _⟩
  · exact ⟨_, _, _, h1⟩
  · exact ⟨_, _, _, hv⟩
/-- What a list of entries owns lies from B on. -/
theorem From.ownS {w : World} {base : Nat} {e : TypeId} {sz n : Nat} {v : Value} {xs : List Value} (h : w.ownsRow base e sz v n xs) : From base v := fun a m c hv => by
  rcases h.2 with ⟨hn, _⟩ | ⟨g, cap, cur, hv', hg, _⟩
  · rw [hn] at hv; cases hv
  · rw [hv'] at hv; cases hv; exact hg
/-- v is the list xs of entries, in blocks from B on. -/
def EntsV (w : World) (B : Nat) (v : Value) (xs : List Ent) : Prop :=
  From B v ∧ ∃ cs o a c, v = .slice a xs.length c ∧ xs.length ≤ c ∧ c ≤ maxLen ∧ ECs w B o xs cs ∧ (xs = [] ∨ ∃ b f, a = some ⟨b, f, none⟩ ∧ ∀ j u, cs[j]? = some u → w.cell? ⟨b, f + j, none⟩ = some u)
theorem EntsV.nil (w : World) (B : Nat) : EntsV w B (.slice none 0 0) [] := ⟨From.nil B, [], none, none, 0, rfl, Nat.le_refl _, by simp [maxLen], rfl, .inl rfl⟩
theorem EntsV.own {w : World} {base : Nat} {B : Nat} {e : TypeId} {o : Option Nat} {v : Value} {xs : List Ent} {cs : List Value} (h : w.ownsRow base e 6 v xs.length cs) (hb : B ≤ base) (hc : ECs w B o xs cs) : EntsV w B v xs := by
  refine ⟨(From.ownS h).mono hb, ?_⟩
  rcases h.2 with ⟨hv, hn⟩ | ⟨g, cap, cur, hv, hg, hh, h1, h2, h3, h4⟩
  · exact ⟨cs, o, none, 0, by rw [hv, hn], by omega, by simp [maxLen], hc, .inl (List.eq_nil_of_length_eq_zero hn)⟩
  · exact ⟨cs, o, some ⟨g, 0, none⟩, cap, hv, h1, h2, hc, .inr ⟨g, 0, rfl, fun j u hj => by have := h.cells (g := g) (by rw [hv]; rfl) j u hj; rwa [Addr.add_lit] at this⟩⟩
theorem ECs.none {w : World} {B : Nat} {o : Option Nat} : ∀ {xs : List Ent} {cs : List Value}, ECs w B o xs cs → ECs w B none xs cs
  | [], _, h => h
  | _ :: _, _, ⟨dv, mv, rest, e, h1, h2, h3⟩ => ⟨dv, mv, rest, e, ⟨h1.1, h1.2.1, fun _ _ _ _ _ hm => by simp at hm⟩, ⟨h2.1, h2.2.1, fun _ _ _ _ _ hm => by simp at hm⟩, h3.none⟩
theorem EntsV.chg {S : List Nat} {w w' : World} {B : Nat} {v : Value} {xs : List Ent} (h : EntsV w B v xs) (hg : Chg S w w') (hS : ∀ t ∈ S, t < B) : EntsV w' B v xs := by
  obtain ⟨hf, cs, o, a, c, hv, h1, h2, h3, h4⟩ := h
  refine ⟨hf, cs, o, a, c, hv, h1, h2, h3.chg hg fun t ht => .inl (hS t ht), ?_⟩
  rcases h4 with h4 | ⟨b, f, rfl, hc⟩
  · exact .inl h4
  · exact .inr ⟨b, f, rfl, fun j u hj => cell_chg hg (hc j u hj) (fun hm => by have := hf _ _ _ hv; have := hS _ hm; simp at *; omega)⟩
theorem EntsV.ext {w w' : World} {B : Nat} {v : Value} {xs : List Ent} (h : EntsV w B v xs) (hE : Ext w w') : EntsV w' B v xs := h.chg (S := []) (Chg.ext hE) (by simp)
theorem EntsV.low {w : World} {B B' : Nat} {v : Value} {xs : List Ent} (h : EntsV w B v xs) (hB : B' ≤ B) : EntsV w B' v xs := by
  obtain ⟨hf, cs, o, a, c, hv, h1, h2, h3, h4⟩ := h
  refine ⟨hf.mono hB, cs, o, a, c, hv, h1, h2, ?_, h4⟩
  clear h4 hv h1
  induction xs generalizing cs with
  | nil => exact h3
  | cons x r ih => obtain ⟨dv, mv, rest, e, k1, k2, k3⟩ := h3; exact ⟨dv, mv, rest, e, ⟨k1.1, k1.2.1.mono hB, k1.2.2⟩, ⟨k2.1, k2.2.1.mono hB, k2.2.2⟩, ih _ k3⟩
end Go.Proofs.Ytjodgbabfhcilaa

/- Lists of entries that may be written. -/
namespace Go.Proofs.Ytjodgbabfhcilaa
open Go Go.RowKit

/-- A list that may be written. -/
def RdW (w : World) (v : Value) (cs : List Value) : Prop := Rd w v cs ∧ UnA w v
section
variable {w w' : World} {B : Nat} {o o' : Option Nat} {v : Value} {cs : List Value} {S : List Nat}
theorem Rd.n (h : Rd w v cs) {a : Option Addr} {n c : Nat} (hv : v = .slice a n c) : n = cs.length := by
  obtain ⟨a', c', hv', _⟩ := h
  rw [hv] at hv'
  cases hv'; rfl
theorem RdW.ext (h : RdW w v cs) (hE : Ext w w') : RdW w' v cs := ⟨h.1.ext hE, h.2.ext hE⟩
theorem RdW.chg (h : RdW w v cs) (hg : Chg S w w') (ho : OffL v cs S) : RdW w' v cs :=
  ⟨h.1.chg hg ho, h.2.chg hg fun a n c hv hn => ho a n c hv fun e => hn (by rw [h.1.n hv, e]; rfl)⟩
theorem LV.un (h : LV w B o v cs) (hu : UnA w v) (hg : Chg S w w') (hS : ∀ t ∈ S, t < B ∨ o = some t) : UnA w' v :=
  hu.chg hg fun a n c hv hn hm => by
    rcases hS _ hm with h1 | h1
    · have := h.2.1 a n c hv; omega
    · exact h.2.2 a n c hv (fun e => hn (by rw [h.1.n hv, e]; rfl)) (by rw [h1]; simp)
theorem ECs.un : ∀ {xs : List Ent} {cs : List Value}, ECs w B o xs cs → Chg S w w' → (∀ t ∈ S, t < B ∨ o = some t) → ∀ u ∈ cs, UnA w u → UnA w' u
  | [], cs, h, _, _, u, hu, _ => by rw [show cs = [] from h] at hu; cases hu
  | x :: xs, cs, ⟨dv, mv, rest, e, h1, h2, h3⟩, hg, hS, u, hu, hn => by
    rw [e, List.mem_append] at hu
    rcases hu with hu | hu
    · simp [eCells] at hu
      rcases hu with rfl | rfl | rfl | rfl | rfl | rfl
      · exact UnA.not _ (by intro a n c e; cases e)
      · exact UnA.not _ (by intro a n c e; cases e)
      · exact UnA.not _ (by intro a n c e; cases e)
      · exact UnA.not _ (by intro a n c e; cases e)
      · exact h1.un hn hg hS
      · exact h2.un hn hg hS
    · exact h3.un hg hS u hu hn
/-- Cells of entries whose lists may be written. -/
def ECU (w : World) (B : Nat) (o : Option Nat) (xs : List Ent) (cs : List Value) : Prop := ECs w B o xs cs ∧ ∀ u ∈ cs, UnA w u
variable {xs : List Ent}
theorem ECU.nil : ECU w B o [] [] := ⟨rfl, fun _ h => by cases h⟩
theorem ECU.chg (h : ECU w B o xs cs) (hg : Chg S w w') (hS : ∀ t ∈ S, t < B ∨ o = some t) : ECU w' B o xs cs := ⟨h.1.chg hg hS, fun u hu => h.1.un hg hS u hu (h.2 u hu)⟩
theorem ECU.step (h : ECU w B o xs cs) (hg : Chg o.toList w w') (ho : o' = o ∨ ∃ k, o' = some k ∧ w.heap.size ≤ k) : ECU w' B o' xs cs :=
  ⟨h.1.step hg ho, fun u hu => h.1.un hg (fun t ht => by cases o with | none => simp at ht | some q => simp at ht; subst ht; exact .inr rfl) u hu (h.2 u hu)⟩
theorem ECU.push {x : Ent} {dv mv : Value} (h : ECU w B o xs cs) (h1 : LV w B o dv (u8s x.data)) (u1 : UnA w dv) (h2 : LV w B o mv (u64s x.members)) (u2 : UnA w mv) : ECU w B o (xs ++ [x]) (cs ++ eCells x dv mv) :=
  ⟨h.1.push h1 h2, fun u hu => by
    rw [List.mem_append] at hu
    rcases hu with hu | hu
    · exact h.2 u hu
    · simp [eCells] at hu
      rcases hu with rfl | rfl | rfl | rfl | rfl | rfl
      · exact UnA.not _ (by intro a n c e; cases e)
      · exact UnA.not _ (by intro a n c e; cases e)
      · exact UnA.not _ (by intro a n c e; cases e)
      · exact UnA.not _ (by intro a n c e; cases e)
      · exact u1
      · exact u2⟩
/-- A list of entries, all of whose lists, and itself, may be written. -/
def EntsU (w : World) (v : Value) : Prop := UnA w v ∧ ∀ b f n c, v = .slice (some ⟨b, f, none⟩) n c → ∀ j, j < n * 6 → ∀ x, w.cell? ⟨b, f + j, none⟩ = some x → UnA w x
theorem EntsU.nil (w : World) : EntsU w (.slice none 0 0) := ⟨UnA.nil w, fun _ _ _ _ h => by cases h⟩
theorem EntsU.own {base : Nat} {e : TypeId} (h : w.ownsRow base e 6 v xs.length cs) (hu : ∀ u ∈ cs, UnA w u) : EntsU w v := by
  refine ⟨UnA.own h, fun b f n c hv j hj x hx => ?_⟩
  have hn : n = xs.length ∧ f = 0 := by
    rcases h.2 with ⟨h1, _⟩ | ⟨g, cap, cur, h1, _⟩
    · rw [h1] at hv; cases hv
    · rw [h1] at hv; cases hv; exact ⟨rfl, rfl⟩
  obtain ⟨rfl, rfl⟩ := hn
  have hl : j < cs.length := by rw [h.1]; exact hj
  have := h.cells (g := b) (by rw [hv]; rfl) j cs[j] (List.getElem?_eq_getElem hl)
  rw [Addr.add_lit, Nat.zero_add] at this
  rw [Nat.zero_add, this] at hx
  cases hx
  exact hu _ (List.getElem_mem hl)
theorem EntsU.chg (h : EntsU w v) (hV : EntsV w B v xs) (hg : Chg S w w') (hS : ∀ t ∈ S, t < B) : EntsU w' v := by
  obtain ⟨hf, cs, o, a, c, hv, h1, h2, h3, h4⟩ := hV
  refine ⟨h.1.chg hg fun a n c e _ hm => by have := hf a n c e; have := hS _ hm; omega, fun b f n c' e j hj x hx => ?_⟩
  rw [hv] at e
  cases e
  rcases h4 with h4 | ⟨b', f', ha, hc⟩
  · rw [h4] at hj; simp at hj
  · cases ha
    have hl : j < cs.length := by rw [h3.len]; exact hj
    have k1 := hc j cs[j] (List.getElem?_eq_getElem hl)
    have k2 := cell_chg hg k1 (fun hm => by have := hf _ _ _ hv; have := hS _ hm; simp at *; omega)
    rw [k2] at hx
    cases hx
    exact h3.un hg (fun t ht => .inl (hS t ht)) _ (List.getElem_mem hl) (h.2 b f _ _ hv j hj _ k1)
theorem EntsU.ext (h : EntsU w v) (hV : EntsV w B v xs) (hE : Ext w w') : EntsU w' v := h.chg hV (Chg.ext hE : Chg [] w w') (by simp)
end
end Go.Proofs.Ytjodgbabfhcilaa

/- Lists of entries that are the same. -/
namespace Go.Proofs.Ytjodgbabfhcilaa
open Go Go.RowKit

instance entDec : DecidableEq Ent := fun a b => decidable_of_iff (sameB a b = true) (sameB_iff a b)
theorem sameB_dec (a b : Ent) : sameB a b = decide (a = b) := by
  by_cases h : a = b
  · rw [decide_eq_true h]; exact (sameB_iff a b).2 h
  · rw [decide_eq_false h]
    cases hs : sameB a b
    · rfl
    · exact absurd ((sameB_iff a b).1 hs) h
theorem ECs.at {w : World} {B : Nat} {o : Option Nat} : ∀ {xs : List Ent} {cs : List Value}, ECs w B o xs cs → ∀ (r : Nat) (x : Ent), xs[r]? = some x →
    ∃ dv mv, (∀ (j : Nat) (u : Value), (eCells x dv mv)[j]? = some u → cs[r * 6 + j]? = some u) ∧ LV w B o dv (u8s x.data) ∧ LV w B o mv (u64s x.members)
  | [], _, _, r, x, hr => by simp at hr
  | y :: rest, cs, ⟨dv, mv, rs, e, h1, h2, h3⟩, 0, x, hr => by
    simp at hr; subst hr; subst e
    refine ⟨dv, mv, fun j u hj => ?_, h1, h2⟩
    rw [Nat.zero_mul, Nat.zero_add, List.getElem?_append_left (List.getElem?_eq_some_iff.1 hj).1]; exact hj
  | y :: rest, cs, ⟨dv, mv, rs, e, h1, h2, h3⟩, r + 1, x, hr => by
    obtain ⟨dv', mv', hc, k1, k2⟩ := ECs.at h3 r x (by simpa using hr)
    refine ⟨dv', mv', fun j u hj => ?_, k1, k2⟩
    rw [e, show (r + 1) * 6 + j = (eCells y dv mv).length + (r * 6 + j) by simp [eCells]; omega, List.getElem?_append_right (by omega), Nat.add_sub_cancel_left]
    exact hc j u hj
/-- The entry r of a list, as its cells lie. -/
def EAt (w : World) (a : Option Addr) (r : Nat) (x : Ent) : Prop :=
  ∃ b f a4 n4 c4 a5 n5 c5, a = some ⟨b, f, none⟩ ∧ w.cell? ⟨b, f + r * 6, none⟩ = some (.int .u64 x.term) ∧ w.cell? ⟨b, f + r * 6 + 1, none⟩ = some (.int .i64 x.kind) ∧ w.cell? ⟨b, f + r * 6 + 2, none⟩ = some (.int .u64 x.client) ∧
    w.cell? ⟨b, f + r * 6 + 3, none⟩ = some (.int .u64 x.seq) ∧ w.cell? ⟨b, f + r * 6 + 4, none⟩ = some (.slice a4 n4 c4) ∧ w.cell? ⟨b, f + r * 6 + 5, none⟩ = some (.slice a5 n5 c5) ∧
    EntV w (.agg #[.int .u64 x.term, .int .i64 x.kind, .int .u64 x.client, .int .u64 x.seq, .slice a4 n4 c4, .slice a5 n5 c5]) x
theorem EntsV.open {w : World} {B : Nat} {v : Value} {xs : List Ent} (h : EntsV w B v xs) : ∃ a c, v = .slice a xs.length c ∧ xs.length ≤ c ∧ c ≤ maxLen ∧ ∀ r x, xs[r]? = some x → EAt w a r x := by
  obtain ⟨_, cs, o, a, c, hv, h1, h2, h3, h4⟩ := h
  refine ⟨a, c, hv, h1, h2, fun r x hr => ?_⟩
  rcases h4 with h4 | ⟨b, f, ha, hc⟩
  · subst h4; simp at hr
  · obtain ⟨dv, mv, hj, k1, k2⟩ := h3.at r x hr
    obtain ⟨a4, n4, c4, rfl⟩ := Rd.shape k1.1
    obtain ⟨a5, n5, c5, rfl⟩ := Rd.shape k2.1
    refine ⟨b, f, a4, n4, c4, a5, n5, c5, ha, ?_, ?_, ?_, ?_, ?_, ?_, ⟨_, _, rfl, k1.1, k2.1⟩⟩
    all_goals (try simp only [Nat.add_assoc])
    · exact hc _ _ (hj 0 _ rfl)
    · exact hc _ _ (hj 1 _ rfl)
    · exact hc _ _ (hj 2 _ rfl)
    · exact hc _ _ (hj 3 _ rfl)
    · exact hc _ _ (hj 4 _ rfl)
    · exact hc _ _ (hj 5 _ rfl)
theorem EAt.ext {w w' : World} {a : Option Addr} {r : Nat} {x : Ent} (h : EAt w a r x) (hE : Ext w w') : EAt w' a r x := by
  obtain ⟨b, f, a4, n4, c4, a5, n5, c5, ha, h0, h1, h2, h3, h4, h5, hv⟩ := h
  exact ⟨b, f, a4, n4, c4, a5, n5, c5, ha, hE.cell h0, hE.cell h1, hE.cell h2, hE.cell h3, hE.cell h4, hE.cell h5, hv.ext hE⟩
theorem take_step {α : Type} [DecidableEq α] {xs ys : List α} {r : Nat} {x y : α} (hx : xs[r]? = some x) (hy : ys[r]? = some y) (h : xs.take r = ys.take r) : xs.take (r + 1) = ys.take (r + 1) ↔ x = y := by
  rw [List.take_add_one, List.take_add_one, hx, hy, h]; simp

set_option maxHeartbeats 1000000 in
theorem rlist_ret (v1 v2 : Value) (xs ys : List Ent) (w : World) (h1 : EntsV w 0 v1 xs) (h2 : EntsV w 0 v2 ys) (o1 : ∀ x ∈ xs, EntOk x) (o2 : ∀ x ∈ ys, EntOk x) : Calls Try.prog 29 #[v1, v2] w (RetIs (.bool (decide (xs = ys))) w) := by
  obtain ⟨a1, c1, rfl, hl1, hc1, h3⟩ := h1.open
  obtain ⟨a2, c2, rfl, hl2, hc2, h4⟩ := h2.open
  unfold maxLen at hc1 hc2
  have H3 := Lib.hid h3; have H4 := Lib.hid h4; have O1 := Lib.hid o1; have O2 := Lib.hid o2; clear h3 h4 h1 h2 o1 o2
  obtain ⟨res, hres⟩ : ∃ res, res = decide (xs = ys) := ⟨_, rfl⟩
  rw [← hres]
  have HR := Lib.hid hres; clear hres
  by_cases hlen : xs.length = ys.length
  · have hb : ((xs.length : Int) != (ys.length : Int)) = false := by simp [hlen]
    have HL := Lib.hid hlen
    obtain ⟨n, hn⟩ : ∃ n, n = xs.length := ⟨_, rfl⟩
    rw [← hlen] at hl2 hb ⊢
    rw [← hn] at hl1 hl2 hb ⊢
    have HN := Lib.hid hn; clear hlen hn
    go_enter Try.func29, Try.ntmps29
    go_wp2_with fail
    go_loopg [5] n (fun g i wr => ∃ (r : Nat), r + g = n ∧ i = .int .i64 (r : Int) ∧ xs.take r = ys.take r ∧ Ext w wr)
    case atStart => exact ⟨0, by omega, rfl, by simp, Ext.refl _⟩
    case round =>
      obtain ⟨r, hg, rfl, ht, hE⟩ := hrel
      have HT := Lib.hid ht; have HE := Lib.hid hE; clear ht hE
      by_cases hlt : r < n
      · have hx : r < xs.length := by rw [← HN.out]; exact hlt
        have hy : r < ys.length := by rw [← HL.out, ← HN.out]; exact hlt
        obtain ⟨x, hxx⟩ : ∃ x, xs[r]? = some x := ⟨_, List.getElem?_eq_getElem hx⟩
        obtain ⟨y, hyy⟩ : ∃ y, ys[r]? = some y := ⟨_, List.getElem?_eq_getElem hy⟩
        have hst := take_step hxx hyy HT.out
        obtain ⟨b, f, a4, n4, e4, a5, n5, e5, rfl, p0, p1, p2, p3, p4, p5, hvx⟩ := (H3.out r x hxx).ext HE.out
        obtain ⟨b', f', a4', n4', e4', a5', n5', e5', rfl, q0, q1, q2, q3, q4, q5, hvy⟩ := (H4.out r y hyy).ext HE.out
        have ox := O1.out x (List.mem_of_getElem? hxx)
        have oy := O2.out y (List.mem_of_getElem? hyy)
        have HST := Lib.hid hst; have HVX := Lib.hid hvx; have HVY := Lib.hid hvy; have OX := Lib.hid ox; have OY := Lib.hid oy
        clear hxx hyy hst hvx hvy ox oy hx hy
        go_upto_region 6 with fail
        apply Mono.region1 8 Ext [.is _, .is _, .is _, .is _, .is _, .is _, .is _, .is _] (by kernel_rfl) Ext.refl (fun _ _ _ => Ext.trans) (by kernel_rfl) rfl rfl trivial
        focus
          iterate 8 (apply Mono.step_is; (· refine Mono.obl_mk fun w3 hE3 _ K hK => ?_; (replace p0 := hE3.cell (show wr.drew.cell? _ = _ from p0)); (replace p1 := hE3.cell (show wr.drew.cell? _ = _ from p1)); (replace p2 := hE3.cell (show wr.drew.cell? _ = _ from p2)); (replace p3 := hE3.cell (show wr.drew.cell? _ = _ from p3)); (replace p4 := hE3.cell (show wr.drew.cell? _ = _ from p4)); (replace p5 := hE3.cell (show wr.drew.cell? _ = _ from p5)); (replace q0 := hE3.cell (show wr.drew.cell? _ = _ from q0)); (replace q1 := hE3.cell (show wr.drew.cell? _ = _ from q1)); (replace q2 := hE3.cell (show wr.drew.cell? _ = _ from q2)); (replace q3 := hE3.cell (show wr.drew.cell? _ = _ from q3)); (replace q4 := hE3.cell (show wr.drew.cell? _ = _ from q4)); (replace q5 := hE3.cell (show wr.drew.cell? _ = _ from q5)); go_wp2_with fail; simp only [Act.put, List.setIfInBounds_toArray, List.set_cons_succ, List.set_cons_zero] at hK; exact hK _ _ (Ext.refl _) (Mono.is_rfl _ _)); simp only [Act.put, List.setIfInBounds_toArray, List.set_cons_succ, List.set_cons_zero])
          refine Mono.step_end fun w3 hE3 hkn => ?_
          simp only [List.drop_succ_cons, List.drop_zero]
          clear hkn p0 p1 p2 p3 p4 p5 q0 q1 q2 q3 q4 q5
          have HE3 := Lib.hid ((Ext.drew wr).trans hE3)
          clear hE3
          go_wp2_with fail
          refine (rsame_ret _ _ x y w3 (HVX.out.ext HE3.out) (HVY.out.ext HE3.out) OX.out OY.out).mono ?_
          rintro e w4 ⟨rfl, hE4⟩
          have HE4 := Lib.hid (HE.out.trans (HE3.out.trans hE4))
          clear hE4
          by_cases hxy : x = y
          · have hs : sameB x y = true := (sameB_iff x y).2 hxy
            rw [hs]
            have HT2 := Lib.hid (HST.out.2 hxy)
            clear hs hxy
            go_wp2_with fail
            go_roundg (gk - 1)
            case measure => omega
            case rel => exact ⟨r + 1, by omega, by go_num, HT2.out, HE4.out⟩
          · have hs : sameB x y = false := by rw [sameB_dec]; exact decide_eq_false hxy
            rw [hs]
            have HF : Hid (res = false) := Lib.hid (by rw [HR.out]; exact decide_eq_false fun e => hxy (HST.out.1 (by rw [e])))
            clear hs hxy
            go_wp2_with fail
            go_ret
            exact ⟨by rw [HF.out]; rfl, HE4.out⟩
      · have hrn : r = n := by omega
        have HF : Hid (res = true) := Lib.hid (by
          rw [HR.out]
          have := HT.out
          rw [hrn, HN.out, List.take_of_length_le (Nat.le_refl _), HL.out, List.take_of_length_le (Nat.le_refl _)] at this
          simpa using this)
        clear hrn
        go_wp2_with fail
        go_ret
        exact ⟨by rw [HF.out]; rfl, HE.out⟩
  · have hb : ((xs.length : Int) != (ys.length : Int)) = true := by simp; omega
    have HF : Hid (res = false) := Lib.hid (by rw [HR.out]; simp; intro e; exact hlen (by rw [e]))
    clear hlen
    go_enter Try.func29, Try.ntmps29
    go_wp2_with fail
    go_ret
    exact ⟨by rw [HF.out]; rfl, Ext.refl _⟩

set_option maxHeartbeats 1000000 in
theorem eqf_ret (v1 v2 : Value) (xs ys : List Ent) (w : World) (h1 : EntsV w 0 v1 xs) (h2 : EntsV w 0 v2 ys) (o1 : ∀ x ∈ xs, EntOk x) (o2 : ∀ x ∈ ys, EntOk x) : Calls Try.prog 46 #[v1, v2, .func (.func 47) #[] #[]] w (RetIs (.bool (decide (xs = ys))) w) := by
  obtain ⟨a1, c1, rfl, hl1, hc1, h3⟩ := h1.open
  obtain ⟨a2, c2, rfl, hl2, hc2, h4⟩ := h2.open
  unfold maxLen at hc1 hc2
  have H3 := Lib.hid h3; have H4 := Lib.hid h4; have O1 := Lib.hid o1; have O2 := Lib.hid o2; clear h3 h4 h1 h2 o1 o2
  obtain ⟨res, hres⟩ : ∃ res, res = decide (xs = ys) := ⟨_, rfl⟩
  rw [← hres]
  have HR := Lib.hid hres; clear hres
  by_cases hlen : xs.length = ys.length
  · have hb : ((xs.length : Int) != (ys.length : Int)) = false := by simp [hlen]
    have HL := Lib.hid hlen
    obtain ⟨n, hn⟩ : ∃ n, n = xs.length := ⟨_, rfl⟩
    rw [← hlen] at hl2 hb ⊢
    rw [← hn] at hl1 hl2 hb ⊢
    have HN := Lib.hid hn; clear hlen hn
    go_enter Try.func46, Try.ntmps46
    go_wp2_with fail
    go_loopg [17] n (fun g i wr => ∃ (r : Nat), r + g = n ∧ i = .int .i64 (r : Int) ∧ xs.take r = ys.take r ∧ Ext w wr)
    case atStart => exact ⟨0, by omega, rfl, by simp, Ext.refl _⟩
    case round =>
      obtain ⟨r, hg, rfl, ht, hE⟩ := hrel
      have HT := Lib.hid ht; have HE := Lib.hid hE; clear ht hE
      by_cases hlt : r < n
      · have hx : r < xs.length := by rw [← HN.out]; exact hlt
        have hy : r < ys.length := by rw [← HL.out, ← HN.out]; exact hlt
        obtain ⟨x, hxx⟩ : ∃ x, xs[r]? = some x := ⟨_, List.getElem?_eq_getElem hx⟩
        obtain ⟨y, hyy⟩ : ∃ y, ys[r]? = some y := ⟨_, List.getElem?_eq_getElem hy⟩
        have hst := take_step hxx hyy HT.out
        obtain ⟨b, f, a4, n4, e4, a5, n5, e5, rfl, p0, p1, p2, p3, p4, p5, hvx⟩ := (H3.out r x hxx).ext HE.out
        obtain ⟨b', f', a4', n4', e4', a5', n5', e5', rfl, q0, q1, q2, q3, q4, q5, hvy⟩ := (H4.out r y hyy).ext HE.out
        have ox := O1.out x (List.mem_of_getElem? hxx)
        have oy := O2.out y (List.mem_of_getElem? hyy)
        have HST := Lib.hid hst; have HVX := Lib.hid hvx; have HVY := Lib.hid hvy; have OX := Lib.hid ox; have OY := Lib.hid oy
        clear hxx hyy hst hvx hvy ox oy hx hy
        go_upto_region 6 with fail
        have hE1 := Ext.alloc wr (.cells #[.int .u64 x.term, .int .i64 x.kind, .int .u64 x.client, .int .u64 x.seq, .slice a4 n4 e4, .slice a5 n5 e5] 67)
        have HB1 := Lib.hid (Blk.new wr #[.int .u64 x.term, .int .i64 x.kind, .int .u64 x.client, .int .u64 x.seq, .slice a4 n4 e4, .slice a5 n5 e5] 67)
        have h1s : wr.heap.size < (wr.alloc (.cells #[.int .u64 x.term, .int .i64 x.kind, .int .u64 x.client, .int .u64 x.seq, .slice a4 n4 e4, .slice a5 n5 e5] 67)).heap.size := by simp
        generalize wr.alloc (.cells #[.int .u64 x.term, .int .i64 x.kind, .int .u64 x.client, .int .u64 x.seq, .slice a4 n4 e4, .slice a5 n5 e5] 67) = w1 at *
        replace q0 := hE1.cell q0; replace q1 := hE1.cell q1; replace q2 := hE1.cell q2; replace q3 := hE1.cell q3; replace q4 := hE1.cell q4; replace q5 := hE1.cell q5
        have HE1 := Lib.hid hE1
        clear hE1 p0 p1 p2 p3 p4 p5
        go_upto_region 7 with fail
        have hE2 := Ext.alloc w1 (.cells #[.int .u64 y.term, .int .i64 y.kind, .int .u64 y.client, .int .u64 y.seq, .slice a4' n4' e4', .slice a5' n5' e5'] 67)
        have HB2 := Lib.hid (Blk.new w1 #[.int .u64 y.term, .int .i64 y.kind, .int .u64 y.client, .int .u64 y.seq, .slice a4' n4' e4', .slice a5' n5' e5'] 67)
        generalize w1.alloc (.cells #[.int .u64 y.term, .int .i64 y.kind, .int .u64 y.client, .int .u64 y.seq, .slice a4' n4' e4', .slice a5' n5' e5'] 67) = w2 at *
        obtain ⟨p0, p1, p2, p3, p4, p5⟩ := (HB1.out.ext hE2).six
        clear q0 q1 q2 q3 q4 q5
        obtain ⟨q0, q1, q2, q3, q4, q5⟩ := HB2.out.six
        have HE2 := Lib.hid (HE1.out.trans hE2)
        clear hE2 HB1 HB2 HE1
        go_wp2_with fail
        refine (same_ret _ _ x y w2 (HVX.out.ext HE2.out) (HVY.out.ext HE2.out) OX.out OY.out).mono ?_
        rintro e w4 ⟨rfl, hE4⟩
        have HE4 := Lib.hid (HE.out.trans (HE2.out.trans hE4))
        clear hE4 p0 p1 p2 p3 p4 p5 q0 q1 q2 q3 q4 q5
        by_cases hxy : x = y
        · have hs : sameB x y = true := (sameB_iff x y).2 hxy
          rw [hs]
          have HT2 := Lib.hid (HST.out.2 hxy)
          clear hs hxy
          go_wp2_with fail
          go_roundg (gk - 1)
          case measure => omega
          case rel => exact ⟨r + 1, by omega, by go_num, HT2.out, HE4.out⟩
        · have hs : sameB x y = false := by rw [sameB_dec]; exact decide_eq_false hxy
          rw [hs]
          have HF : Hid (res = false) := Lib.hid (by rw [HR.out]; exact decide_eq_false fun e => hxy (HST.out.1 (by rw [e])))
          clear hs hxy
          go_wp2_with fail
          go_ret
          exact ⟨by rw [HF.out]; rfl, HE4.out⟩
      · have hrn : r = n := by omega
        have HF : Hid (res = true) := Lib.hid (by
          rw [HR.out]
          have := HT.out
          rw [hrn, HN.out, List.take_of_length_le (Nat.le_refl _), HL.out, List.take_of_length_le (Nat.le_refl _)] at this
          simpa using this)
        clear hrn
        go_wp2_with fail
        go_ret
        exact ⟨by rw [HF.out]; rfl, HE.out⟩
  · have hb : ((xs.length : Int) != (ys.length : Int)) = true := by simp; omega
    have HF : Hid (res = false) := Lib.hid (by rw [HR.out]; simp; intro e; exact hlen (by rw [e]))
    clear hlen
    go_enter Try.func46, Try.ntmps46
    go_wp2_with fail
    go_ret
    exact ⟨by rw [HF.out]; rfl, Ext.refl _⟩
end Go.Proofs.Ytjodgbabfhcilaa

/- msg.reader: num, yes, image. -/
namespace Go.Proofs.Ytjodgbabfhcilaa
open Go Go.RowKit

/-! ### Plain -/
def rdRng (lo hi : Int) (bs : List Int) : Except Int (Int × List Int) :=
  match rdNum bs with
  | .error e => .error e
  | .ok (n, r) => if n < lo ∨ hi < n then .error 3 else .ok (n, r)
def rdYes (bs : List Int) : Except Int (Bool × List Int) :=
  match rdByte bs with
  | .error e => .error e
  | .ok (c, r) => if 1 < c then .error 3 else .ok (decide (c = 1), r)

set_option maxHeartbeats 400000 in
theorem mmust_c (e : Int) (w : World) : Calls Try.prog 35 #[.int .i64 e] w fun en w' => w' = w ∧ en = if e = 0 then .returned (.tuple #[]) else thrown e := by
  by_cases he : e = 0
  · subst he
    go_enter Try.func35, Try.ntmps35
    go_wp2
    go_end0
    exact ⟨rfl, rfl⟩
  · have hb : (e != 0) = true := by simpa using he
    simp only [if_neg he]
    go_enter Try.func35, Try.ntmps35
    go_wp2
    exact ⟨rfl, rfl, rfl⟩
set_option maxHeartbeats 400000 in
theorem mought_c (b : Bool) (e : Int) (w : World) : Calls Try.prog 36 #[.bool b, .int .i64 e] w fun en w' => w' = w ∧ en = if b then .returned (.tuple #[]) else thrown e := by
  cases b with
  | true =>
    go_enter Try.func36, Try.ntmps36
    go_wp2
    go_end0
    exact ⟨rfl, rfl⟩
  | false =>
    go_enter Try.func36, Try.ntmps36
    go_wp2
    exact ⟨rfl, rfl, rfl⟩

theorem Rdr.ext {w w' : World} {b : Nat} {bs : List Int} {e : Int} (h : Rdr w b bs e) (hE : Ext w w') : Rdr w' b bs e := by
  obtain ⟨v, hB, hR, hF⟩ := h
  exact ⟨v, hB.ext hE, hR.ext hE, hF⟩
theorem Rdr.chg {S : List Nat} {w w' : World} {b : Nat} {bs : List Int} {e : Int} (h : Rdr w b bs e) (hg : Chg S w w') (hb : b ∉ S) (ho : ∀ v, Rd w v (u8s bs) → Bef v b → OffL v (u8s bs) S) : Rdr w' b bs e := by
  obtain ⟨v, hB, hR, hF⟩ := h
  exact ⟨v, hB.chg hg hb, hR.chg hg (ho v hR hF), hF⟩
theorem Rdr.setM {w : World} {b mb : Nat} {bs : List Int} {e : Int} {cs : Array Value} {T : TypeId} (h : Rdr w b bs e) (hm : Blk w mb cs T) (hnu : ∀ c ∈ cs, ∀ y, c ≠ .int .u8 y) (hne : mb ≠ b) (j : Nat) (v : Value) : Rdr (w.setCell ⟨mb, j, none⟩ v) b bs e := by
  obtain ⟨v0, hB, hR, hF⟩ := h
  exact ⟨v0, hB.other _ _ hne, hR.grown (grown_set w mb j v) (Rd.off hR hm fun x hx hm => by obtain ⟨y, _, rfl⟩ := List.mem_map.1 hm; exact hnu _ hx y rfl), hF⟩
/-- How a reading method of a message's field ends. -/
def RM {α : Type} (b mb j : Nat) (T : TypeId) (cs : Array Value) (V : α → Value → World → Prop) (X : Except Int (α × List Int)) (w : World) (en : Ending) (w' : World) : Prop :=
  Chg [b, mb] w w' ∧ match X with
  | .error no => en = thrown no ∧ ∃ cs' : Array Value, Blk w' mb cs' T ∧ cs'.size = cs.size
  | .ok (x, r) => en = .returned (.tuple #[]) ∧ Rdr w' b r 0 ∧ ∃ v, V x v w' ∧ Blk w' mb (cs.setIfInBounds j v) T

set_option maxHeartbeats 2000000 in
theorem rnumM (b mb j : Nat) (T : TypeId) (cs : Array Value) (u : Value) (lo hi : Int) (bs : List Int) (w : World) (hb8 : B8 bs) (hr : Rdr w b bs 0) (hm : Blk w mb cs T) (hj : cs[j]? = some u) (hne : mb ≠ b) (hnu : ∀ c ∈ cs, ∀ y, c ≠ .int .u8 y) :
    Calls Try.prog 87 #[.agg #[ptr b], .pointer (some ⟨mb, j, none⟩), .int .u64 lo, .int .u64 hi] w (RM b mb j T cs (fun n v _ => v = .int .u64 n) (rdRng lo hi bs) w) := by
  obtain ⟨X, hX⟩ : ∃ X, X = rdRng lo hi bs := ⟨_, rfl⟩
  rw [← hX]
  have hE0 := Ext.alloc w (.cells #[ptr b] 92)
  have HX := Lib.hid hX; have HR := Lib.hid hr; have HM := Lib.hid hm; have HJ := Lib.hid hj; have HE0 := Lib.hid hE0
  clear hX hr hm hj hE0
  go_enter Try.func87, Try.ntmps87
  go_wp2_with fail
  refine (num_m b bs 0 _ hb8 (HR.out.ext HE0.out)).mono ?_
  rintro en w1 ⟨hg, hm⟩
  simp only [stuck?, if_true] at hm
  have hC1 : Chg [b, mb] w w1 := (Chg.ext HE0.out).trans (Chg.some hg (.inl (by simp)))
  have hM1 : Blk w1 mb cs T := (HM.out.ext HE0.out).grown hg (by intro e; exact hne (Option.some.inj e))
  have HC1 := Lib.hid hC1; have HM1 := Lib.hid hM1
  clear hg hC1 hM1
  cases hY : rdNum bs with
  | error no =>
    rw [hY] at hm
    obtain ⟨rfl, _⟩ := hm
    have HX1 : Hid (X = .error no) := Lib.hid (by rw [HX.out]; simp [rdRng, hY])
    have hn0 : ¬ no = 0 := rdNum_err hY
    clear hY
    go_wp2_with fail
    refine (mmust_c no w1).mono ?_
    rintro en w2 ⟨rfl, he⟩
    rw [if_neg hn0] at he
    subst he
    refine ⟨rfl, HC1.out, ?_⟩
    rw [HX1.out]
    exact ⟨rfl, cs, HM1.out, rfl⟩
  | ok y =>
    obtain ⟨n, r⟩ := y
    rw [hY] at hm
    obtain ⟨_, rfl, rfl, hr1⟩ := hm
    obtain ⟨h8, ⟨hu0, hu1⟩, hl⟩ := rdNum_b8 hb8 hY
    have HY := Lib.hid hY; have HR1 := Lib.hid hr1
    clear hY hr1
    go_wp2_with fail
    refine (mmust_c 0 w1).mono ?_
    rintro en w2 ⟨rfl, he⟩
    rw [if_pos rfl] at he
    subst he
    by_cases hin : n < lo ∨ hi < n
    · have HX1 : Hid (X = .error 3) := Lib.hid (by rw [HX.out]; simp [rdRng, HY.out, hin])
      obtain ⟨f, hf, hff⟩ : ∃ f : Bool, f = decide (lo ≤ n ∧ n ≤ hi) ∧ f = false := ⟨_, rfl, decide_eq_false (by omega)⟩
      by_cases h1 : n < lo
      · clear hin hf hff
        go_wp2_with fail
        refine (mought_c false 3 w2).mono ?_
        rintro en w3 ⟨rfl, he⟩
        subst he
        refine ⟨rfl, HC1.out, ?_⟩
        rw [HX1.out]
        exact ⟨rfl, cs, HM1.out, rfl⟩
      · have h2 : hi < n := by omega
        clear hin hf hff
        go_wp2_with fail
        rw [show decide (n ≤ hi) = false from decide_eq_false (by omega)]
        refine (mought_c false 3 w2).mono ?_
        rintro en w3 ⟨rfl, he⟩
        subst he
        refine ⟨rfl, HC1.out, ?_⟩
        rw [HX1.out]
        exact ⟨rfl, cs, HM1.out, rfl⟩
    · have HX1 : Hid (X = .ok (n, r)) := Lib.hid (by rw [HX.out]; simp [rdRng, HY.out, hin])
      have h1 : lo ≤ n := by omega
      have h2 : n ≤ hi := by omega
      clear hin
      go_wp2_with fail
      refine (mought_c true 3 w2).mono ?_
      rintro en w3 ⟨rfl, he⟩
      subst he
      have cm := HM1.out.cell j HJ.out
      have fm := HM1.out.free j
      go_wp2_with fail
      go_end0
      refine ⟨HC1.out.setNew mb j _ (.inl (by simp)), ?_⟩
      rw [HX1.out]
      exact ⟨rfl, HR1.out.setM HM1.out hnu hne j _, _, rfl, HM1.out.set j _⟩

set_option maxHeartbeats 2000000 in
theorem ryesM (b mb j : Nat) (T : TypeId) (cs : Array Value) (u : Value) (bs : List Int) (w : World) (hb8 : B8 bs) (hr : Rdr w b bs 0) (hm : Blk w mb cs T) (hj : cs[j]? = some u) (hne : mb ≠ b) (hnu : ∀ c ∈ cs, ∀ y, c ≠ .int .u8 y) :
    Calls Try.prog 88 #[.agg #[ptr b], .pointer (some ⟨mb, j, none⟩)] w (RM b mb j T cs (fun x v _ => v = .bool x) (rdYes bs) w) := by
  obtain ⟨X, hX⟩ : ∃ X, X = rdYes bs := ⟨_, rfl⟩
  rw [← hX]
  have hE0 := Ext.alloc w (.cells #[ptr b] 92)
  have HX := Lib.hid hX; have HR := Lib.hid hr; have HM := Lib.hid hm; have HJ := Lib.hid hj; have HE0 := Lib.hid hE0
  clear hX hr hm hj hE0
  go_enter Try.func88, Try.ntmps88
  go_wp2_with fail
  refine (byte_m b bs 0 _ (HR.out.ext HE0.out)).mono ?_
  rintro en w1 ⟨hg, hm⟩
  simp only [stuck?, if_true] at hm
  have hC1 : Chg [b, mb] w w1 := (Chg.ext HE0.out).trans (Chg.some hg (.inl (by simp)))
  have hM1 : Blk w1 mb cs T := (HM.out.ext HE0.out).grown hg (by intro e; exact hne (Option.some.inj e))
  have HC1 := Lib.hid hC1; have HM1 := Lib.hid hM1
  clear hg hC1 hM1
  cases hY : rdByte bs with
  | error no =>
    rw [hY] at hm
    obtain ⟨rfl, _⟩ := hm
    have HX1 : Hid (X = .error no) := Lib.hid (by rw [HX.out]; simp [rdYes, hY])
    have hn0 : ¬ no = 0 := rdByte_err hY
    clear hY
    go_wp2_with fail
    refine (mmust_c no w1).mono ?_
    rintro en w2 ⟨rfl, he⟩
    rw [if_neg hn0] at he
    subst he
    refine ⟨rfl, HC1.out, ?_⟩
    rw [HX1.out]
    exact ⟨rfl, cs, HM1.out, rfl⟩
  | ok y =>
    obtain ⟨n, r⟩ := y
    rw [hY] at hm
    obtain ⟨_, rfl, rfl, hr1⟩ := hm
    obtain ⟨h8, ⟨hu0, hu1⟩, hl⟩ := rdByte_b8 hb8 hY
    have HY := Lib.hid hY; have HR1 := Lib.hid hr1
    clear hY hr1
    go_wp2_with fail
    refine (mmust_c 0 w1).mono ?_
    rintro en w2 ⟨rfl, he⟩
    rw [if_pos rfl] at he
    subst he
    by_cases hin : 1 < n
    · have HX1 : Hid (X = .error 3) := Lib.hid (by rw [HX.out]; simp [rdYes, HY.out, hin])
      go_wp2_with fail
      rw [show decide (n ≤ 1) = false from decide_eq_false (by omega)]
      refine (mought_c false 3 w2).mono ?_
      rintro en w3 ⟨rfl, he⟩
      subst he
      refine ⟨rfl, HC1.out, ?_⟩
      rw [HX1.out]
      exact ⟨rfl, cs, HM1.out, rfl⟩
    · obtain ⟨x, hx⟩ : ∃ x, x = decide (n = 1) := ⟨_, rfl⟩
      have HX1 : Hid (X = .ok (x, r)) := Lib.hid (by rw [HX.out]; simp [rdYes, HY.out, hin, hx])
      have h1 : n ≤ 1 := by omega
      have hxb : (n == 1) = x := by rw [hx]; exact Bool.eq_iff_iff.2 (by simp)
      clear hin hx
      go_wp2_with fail
      refine (mought_c true 3 w2).mono ?_
      rintro en w3 ⟨rfl, he⟩
      subst he
      have cm := HM1.out.cell j HJ.out
      have fm := HM1.out.free j
      go_wp2_with fail
      go_end0
      refine ⟨HC1.out.setNew mb j _ (.inl (by simp)), ?_⟩
      rw [HX1.out]
      exact ⟨rfl, HR1.out.setM HM1.out hnu hne j _, _, rfl, HM1.out.set j _⟩

/-- A list that a reading call brings, in memory of the call's own. -/
def Img (w : World) (xs : List Int) (v : Value) (w' : World) : Prop := Rd w' v (u8s xs) ∧ From w.heap.size v ∧ UnA w' v

set_option maxHeartbeats 2000000 in
theorem rimgM (b mb j : Nat) (T : TypeId) (cs : Array Value) (u : Value) (bs : List Int) (w : World) (hb8 : B8 bs) (hl : bs.length ≤ 140737488355328) (hr : Rdr w b bs 0) (hm : Blk w mb cs T) (hj : cs[j]? = some u) (hne : mb ≠ b) (hnu : ∀ c ∈ cs, ∀ y, c ≠ .int .u8 y) :
    Calls Try.prog 85 #[.agg #[ptr b], .pointer (some ⟨mb, j, none⟩)] w (RM b mb j T cs (Img w) (rdRaw 16384 bs) w) := by
  obtain ⟨X, hX⟩ : ∃ X, X = rdRaw 16384 bs := ⟨_, rfl⟩
  rw [← hX]
  have hE0 := Ext.alloc w (.cells #[ptr b] 92)
  have hlt := hm.lt
  have HX := Lib.hid hX; have HR := Lib.hid hr; have HM := Lib.hid hm; have HJ := Lib.hid hj; have HE0 := Lib.hid hE0
  clear hX hr hm hj hE0
  go_enter Try.func85, Try.ntmps85
  go_wp2_with fail
  refine (raw_m b bs 0 16384 _ hb8 hl (by omega) (HR.out.ext HE0.out)).mono ?_
  rintro en w1 ⟨hg, hm⟩
  simp only [stuck?, if_true] at hm
  have hC1 : Chg [b, mb] w w1 := (Chg.ext HE0.out).trans (Chg.some hg (.inl (by simp)))
  have hM1 : Blk w1 mb cs T := (HM.out.ext HE0.out).grown hg (by intro e; exact hne (Option.some.inj e))
  have HC1 := Lib.hid hC1; have HM1 := Lib.hid hM1
  clear hg hC1 hM1
  cases hY : rdRaw 16384 bs with
  | error no =>
    rw [hY] at hm
    obtain ⟨rfl, _⟩ := hm
    have HX1 : Hid (X = .error no) := Lib.hid (by rw [HX.out, hY])
    have hn0 : ¬ no = 0 := rdRaw_err hY
    clear hY
    go_wp2_with fail
    refine (mmust_c no w1).mono ?_
    rintro en w2 ⟨rfl, he⟩
    rw [if_neg hn0] at he
    subst he
    refine ⟨rfl, HC1.out, ?_⟩
    rw [HX1.out]
    exact ⟨rfl, cs, HM1.out, rfl⟩
  | ok y =>
    obtain ⟨d, r⟩ := y
    rw [hY] at hm
    obtain ⟨dv, rfl, hd, hr1⟩ := hm
    have HX1 : Hid (X = .ok (d, r)) := Lib.hid (by rw [HX.out, hY])
    obtain ⟨da, dn, dc, rfl⟩ := Rd.shape hd.1
    have HD := Lib.hid hd; have HR1 := Lib.hid hr1
    clear hY hr1 hd
    go_wp2_with fail
    refine (mmust_c 0 w1).mono ?_
    rintro en w2 ⟨rfl, he⟩
    rw [if_pos rfl] at he
    subst he
    have cm := HM1.out.cell j HJ.out
    have fm := HM1.out.free j
    go_wp2_with fail
    go_end0
    refine ⟨HC1.out.setNew mb j _ (.inl (by simp)), ?_⟩
    rw [HX1.out]
    have hfr : From w.heap.size (.slice da dn dc) := fun a n c hv => Nat.le_trans HE0.out.size (HD.out.2.1 a n c hv)
    exact ⟨rfl, HR1.out.setM HM1.out hnu hne j _, _, ⟨HD.out.1.chg (Chg.set (S := [mb]) mb j _ (by simp)) (hfr.off (by simpa using hlt)), hfr, HD.out.2.2.set mb j _⟩, HM1.out.set j _⟩
end Go.Proofs.Ytjodgbabfhcilaa

/- msg.reader: members. -/
namespace Go.Proofs.Ytjodgbabfhcilaa
open Go Go.RowKit

def Mems (w : World) (xs : List Int) (v : Value) (w' : World) : Prop := Rd w' v (u64s xs) ∧ From w.heap.size v ∧ UnA w' v
theorem nu_set {cs : Array Value} (h : ∀ c ∈ cs, ∀ y, c ≠ .int .u8 y) (j : Nat) {v : Value} (hv : ∀ y, v ≠ .int .u8 y) : ∀ c ∈ cs.setIfInBounds j v, ∀ y, c ≠ .int .u8 y := by
  intro c hc y
  rcases Array.mem_or_eq_of_mem_setIfInBounds hc with h1 | h1
  · exact h c h1 y
  · rw [h1]; exact hv y
theorem Rdr.own {w w' : World} {b : Nat} {bs : List Int} {e : Int} {row : Option Nat} {B : Nat} (h : Rdr w b bs e) (hg : w.grownBy w' row) (hrow : ∀ k, row = some k → B ≤ k) (hB : b < B) : Rdr w' b bs e := by
  obtain ⟨v0, hb, hR, hF⟩ := h
  exact ⟨v0, hb.grown hg (by intro e; have := hrow _ e.symm; omega), hR.grown hg fun a n c hv _ e => (by have := hrow _ e.symm; have := hF a n c hv; omega), hF⟩
theorem set_set {cs : Array Value} (j : Nat) (u v : Value) : (cs.setIfInBounds j u).setIfInBounds j v = cs.setIfInBounds j v := by
  apply Array.ext
  · simp
  · intro i h1 h2
    by_cases hij : j = i
    · subst hij; simp
    · simp [Array.getElem_setIfInBounds_ne, hij]

set_option maxHeartbeats 4000000 in
theorem rmemM (b mb j : Nat) (T : TypeId) (cs : Array Value) (bs : List Int) (w : World) (hb8 : B8 bs) (hl : bs.length ≤ 140737488355328) (hr : Rdr w b bs 0) (hm : Blk w mb cs T) (hj : cs[j]? = some (.slice none 0 0)) (hne : mb ≠ b) (hnu : ∀ c ∈ cs, ∀ y, c ≠ .int .u8 y) :
    Calls Try.prog 86 #[.agg #[ptr b], .pointer (some ⟨mb, j, none⟩)] w (RM b mb j T cs (Mems w) (idsB bs) w) := by
  obtain ⟨X, hX⟩ : ∃ X, X = idsB bs := ⟨_, rfl⟩
  rw [← hX]
  have hltb := rdr_lt hr
  have hltm := hm.lt
  have hjs : j < cs.size := (Array.getElem?_eq_some_iff.1 hj).1
  have hE0 := Ext.alloc w (.cells #[ptr b] 92)
  have hX0 : Blk (w.alloc (.cells #[ptr b] 92)) w.heap.size #[ptr b] 92 := Blk.new _ _ _
  have HX := Lib.hid hX; have HR := Lib.hid hr; have HM := Lib.hid hm; have HJ := Lib.hid hj; have HE0 := Lib.hid hE0; have HX0 := Lib.hid hX0
  clear hX hr hm hj hE0 hX0
  go_enter Try.func86, Try.ntmps86
  go_wp2_with fail
  refine (num_m b bs 0 _ hb8 (HR.out.ext HE0.out)).mono ?_
  rintro en w1 ⟨hg, hm⟩
  simp only [stuck?, if_true] at hm
  have hC1 : Chg [b, mb] w w1 := (Chg.ext HE0.out).trans (Chg.some hg (.inl (by simp)))
  have hM1 : Blk w1 mb cs T := (HM.out.ext HE0.out).grown hg (by intro e; exact hne (Option.some.inj e))
  have hX1' : Blk w1 w.heap.size #[ptr b] 92 := HX0.out.grown hg (by intro e; have := Option.some.inj e; omega)
  have HC1 := Lib.hid hC1; have HM1 := Lib.hid hM1; have HBX := Lib.hid hX1'
  clear hg hC1 hM1 hX1'
  cases hY : rdNum bs with
  | error no =>
    rw [hY] at hm
    obtain ⟨rfl, _⟩ := hm
    have HX1 : Hid (X = .error no) := Lib.hid (by rw [HX.out]; simp [idsB, hY])
    have hn0 : ¬ no = 0 := rdNum_err hY
    clear hY
    go_wp2_with fail
    refine (mmust_c no w1).mono ?_
    rintro en w2 ⟨rfl, he⟩
    rw [if_neg hn0] at he
    subst he
    refine ⟨rfl, HC1.out, ?_⟩
    rw [HX1.out]
    exact ⟨rfl, cs, HM1.out, rfl⟩
  | ok y =>
    obtain ⟨n, r⟩ := y
    rw [hY] at hm
    obtain ⟨_, rfl, rfl, hr1⟩ := hm
    obtain ⟨h8, ⟨hu0, hu1⟩, hlr⟩ := rdNum_b8 hb8 hY
    have HY := Lib.hid hY; have HR1 := Lib.hid hr1; have H8 := Lib.hid h8
    clear hY hr1 h8
    go_wp2_with fail
    refine (mmust_c 0 w1).mono ?_
    rintro en w2 ⟨rfl, he⟩
    rw [if_pos rfl] at he
    subst he
    by_cases hin : n < 1 ∨ 7 < n
    · have HX1 : Hid (X = .error 3) := Lib.hid (by rw [HX.out]; simp [idsB, HY.out, hin])
      by_cases h1 : n < 1
      · clear hin
        go_wp2_with fail
        refine (mought_c false 3 w2).mono ?_
        rintro en w3 ⟨rfl, he⟩
        subst he
        refine ⟨rfl, HC1.out, ?_⟩
        rw [HX1.out]
        exact ⟨rfl, cs, HM1.out, rfl⟩
      · have h2 : 7 < n := by omega
        clear hin
        go_wp2_with fail
        rw [show decide (n ≤ 7) = false from decide_eq_false (by omega)]
        refine (mought_c false 3 w2).mono ?_
        rintro en w3 ⟨rfl, he⟩
        subst he
        refine ⟨rfl, HC1.out, ?_⟩
        rw [HX1.out]
        exact ⟨rfl, cs, HM1.out, rfl⟩
    · have h1 : 1 ≤ n := by omega
      have h2 : n ≤ 7 := by omega
      obtain ⟨N, rfl⟩ := Int.eq_ofNat_of_zero_le hu0
      have HX1 : Hid (X = rdIds N [] r) := Lib.hid (by rw [HX.out]; simp [idsB, HY.out, hin])
      clear hin
      go_wp2_with fail
      refine (mought_c true 3 w2).mono ?_
      rintro en w3 ⟨rfl, he⟩
      subst he
      have hBb : b < w3.heap.size := rdr_lt HR1.out
      have hBm : mb < w3.heap.size := HM1.out.lt
      have hwB : w.heap.size < w3.heap.size := HBX.out.lt
      have hN7 : N ≤ 7 := by omega
      have hcs0 : cs.setIfInBounds j (.slice none 0 0) = cs := by
        apply Array.ext_getElem?
        intro i
        by_cases hij : j = i
        · subst hij; rw [Array.getElem?_setIfInBounds_self_of_lt hjs, HJ.out]
        · rw [Array.getElem?_setIfInBounds_ne hij]
      have HCS := Lib.hid hcs0
      clear hcs0
      go_wp2_with fail
      go_loopg [24] N (fun g i wr => ∃ (k : Nat) (acc s : List Int) (mv : Value), k + g = N ∧ i = .int .u64 (k : Int) ∧ Chg [b, mb] w wr ∧ Rdr wr b s 0 ∧ Blk wr w.heap.size #[ptr b] 92 ∧ Blk wr mb (cs.setIfInBounds j mv) T ∧ wr.ownsRow w3.heap.size 29 1 mv acc.length (u64s acc) ∧ acc.length = k ∧ w3.heap.size ≤ wr.heap.size ∧ B8 s ∧ rdIds (N - k) acc s = X)
      case atStart => exact ⟨0, [], r, .slice none 0 0, by omega, rfl, HC1.out, HR1.out, HBX.out, by rw [HCS.out]; exact HM1.out, World.ownsRow_nil _ _ _ _, rfl, Nat.le_refl _, H8.out, HX1.out.symm⟩
      case round =>
        obtain ⟨k, acc, s, mv, hk, rfl, hC, hR, hBX, hM, ho, hlen, hsz, h8, hd⟩ := hrel
        have HC := Lib.hid hC; have HRR := Lib.hid hR; have HBXX := Lib.hid hBX; have HMM := Lib.hid hM; have HO := Lib.hid ho; have H88 := Lib.hid h8; have HD := Lib.hid hd
        have cx := hBX.cell 0 rfl
        clear hC hR hBX hM ho h8 hd
        by_cases hlt : k < N
        · obtain ⟨M, hM⟩ : ∃ M, N - k = M + 1 := ⟨N - k - 1, by omega⟩
          go_wp2_with fail
          refine (num_m b s 0 wr H88.out HRR.out).mono ?_
          rintro en w4 ⟨hg4, hm4⟩
          simp only [stuck?, if_true] at hm4
          have HC4 := Lib.hid (HC.out.trans (Chg.some hg4 (.inl (by simp))))
          have HM4 := Lib.hid (HMM.out.grown hg4 (by intro e; exact hne (Option.some.inj e)))
          have HBX4 := Lib.hid (HBXX.out.grown hg4 (by intro e; have := Option.some.inj e; omega))
          have HO4 := Lib.hid (own_growR HO.out hg4 hBb)
          have hsz4 : w3.heap.size ≤ w4.heap.size := Nat.le_trans hsz hg4.size
          clear hg4 cx
          cases hY4 : rdNum s with
          | error no =>
            rw [hY4] at hm4
            obtain ⟨rfl, _⟩ := hm4
            have HX2 : Hid (X = .error no) := Lib.hid (by rw [← HD.out, hM]; simp [rdIds, hY4])
            have hn0 : ¬ no = 0 := rdNum_err hY4
            clear hY4
            go_wp2_with fail
            refine (mmust_c no w4).mono ?_
            rintro en w5 ⟨rfl, he⟩
            rw [if_neg hn0] at he
            subst he
            refine ⟨rfl, HC4.out, ?_⟩
            rw [HX2.out]
            exact ⟨rfl, _, HM4.out, by simp⟩
          | ok y4 =>
            obtain ⟨m, s4⟩ := y4
            rw [hY4] at hm4
            obtain ⟨_, rfl, rfl, hr4⟩ := hm4
            obtain ⟨h84, ⟨hm0, hm1⟩, _⟩ := rdNum_b8 H88.out hY4
            have HN4 : Hid ((if membersB (acc ++ [m]) then rdIds (N - (k + 1)) (acc ++ [m]) s4 else .error 3) = X) := Lib.hid (by rw [← HD.out, rdIds_step hM hY4])
            have HR4 := Lib.hid hr4; have H84 := Lib.hid h84
            have cm := HM4.out.cell j (u := mv) (by simp [hjs])
            have fm := HM4.out.free j
            have hacc : acc.length + 1 ≤ 7 := by omega
            clear hY4 hr4 h84
            go_wp2_with fail
            refine (mmust_c 0 w4).mono ?_
            rintro en w5 ⟨rfl, he⟩
            rw [if_pos rfl] at he
            subst he
            go_wp2_with (at_builtin; go_loud (refine wpList_push rfl (.tmp 37) (.tmp 39) _ rfl el64 w3.heap.size _ _ _ (.int .u64 m) rfl HO4.out 29 rfl rfl (by omega) (by unfold maxLen; omega) hsz4 ?_))
            intro v6 w6 ho6 hg6
            have hrow : ∀ k, mv.ownBlock = some k → w3.heap.size ≤ k := own_block HO4.out
            have hM6 := HM4.out.grown hg6 (by intro e; have := hrow _ e.symm; omega)
            have hBX6 := HBX4.out.grown hg6 (by intro e; have := hrow _ e.symm; omega)
            have hR6 := HR4.out.own hg6 hrow hBb
            have hsz6 : w3.heap.size ≤ w6.heap.size := Nat.le_trans hsz4 hg6.size
            have hC6 : Chg [b, mb] w w6 := HC4.out.trans' (Chg.grown hg6) fun t ht => by
              cases hmv : mv.ownBlock with
              | none => rw [hmv] at ht; cases ht
              | some q => rw [hmv] at ht; simp at ht; subst ht; have := hrow _ hmv; right; omega
            obtain ⟨a6, n6, c6, rfl⟩ := Rd.shape (Rd.of_own ho6)
            have hm6 : membersB (acc ++ [m]) = membersB (acc ++ [m]) := rfl
            clear cm fm hm6
            have cm := hM6.cell j (u := mv) (by simp [hjs])
            have fm := hM6.free j
            have hM7 := hM6.set j (.slice a6 n6 c6)
            rw [set_set] at hM7
            have hR7 := hR6.setM hM6 (nu_set hnu j (by intro y e; subst e; exact absurd HO4.out.2 (by simp))) hne j (.slice a6 n6 c6)
            have ho7 := ownsRow_setCell_below ho6 (a := ⟨mb, j, none⟩) (show mb < w3.heap.size from hBm) (.slice a6 n6 c6)
            have HM7 := Lib.hid hM7; have HR7 := Lib.hid hR7; have HO7 := Lib.hid ho7; have HC7 := Lib.hid (hC6.setNew mb j (.slice a6 n6 c6) (.inl (by simp))); have HBX7 := Lib.hid (hBX6.other ⟨mb, j, none⟩ (.slice a6 n6 c6) (by simp; omega))
            have hsz7 : w3.heap.size ≤ (w6.setCell ⟨mb, j, none⟩ (.slice a6 n6 c6)).heap.size := by simpa [World.setCell] using hsz6
            have HS7 := Lib.hid hsz7
            clear ho6 hg6 hM6 hBX6 hR6 hC6 hM7 hR7 ho7 hsz7 hrow
            go_upto_region 9 with fail
            clear cm fm
            generalize w6.setCell ⟨mb, j, none⟩ (.slice a6 n6 c6) = w7 at *
            have c7 := HM7.out.cell j (u := .slice a6 n6 c6) (by simp [hjs])
            obtain ⟨ok, hok⟩ : ∃ ok, ok = membersB (acc ++ [m]) := ⟨_, rfl⟩
            have HOK := Lib.hid hok
            clear hok
            have hacc2 : u64s acc ++ [.int .u64 m] = u64s (acc ++ [m]) := by simp [u64s]
            have ho8 := HO7.out
            rw [hacc2] at ho8
            have HO8 := Lib.hid ho8
            clear ho8 hacc2
            go_wp2_with fail
            refine (members_ret _ (acc ++ [m]) w7 (Rd.of_own HO8.out)).mono ?_
            rintro en w8 ⟨rfl, hE8⟩
            rw [← HOK.out]
            have HC8 := Lib.hid (HC7.out.trans (Chg.ext hE8)); have HM8 := Lib.hid (HM7.out.ext hE8); have HR8 := Lib.hid (HR7.out.ext hE8); have HBX8 := Lib.hid (HBX7.out.ext hE8); have HO9 := Lib.hid (own_ext HO8.out hE8); have HS8 := Lib.hid (Nat.le_trans HS7.out hE8.size)
            clear hE8 c7
            cases ok with
            | false =>
              have HX2 : Hid (X = .error 3) := Lib.hid (by rw [← HN4.out, ← HOK.out]; simp)
              go_wp2_with fail
              refine (mought_c false 3 w8).mono ?_
              rintro en w9 ⟨rfl, he⟩
              subst he
              refine ⟨rfl, HC8.out, ?_⟩
              rw [HX2.out]
              exact ⟨rfl, _, HM8.out, by simp⟩
            | true =>
              have HX2 : Hid (rdIds (N - (k + 1)) (acc ++ [m]) s4 = X) := Lib.hid (by rw [← HN4.out, ← HOK.out]; simp)
              go_wp2_with fail
              refine (mought_c true 3 w8).mono ?_
              rintro en w9 ⟨rfl, he⟩
              subst he
              go_wp2_with fail
              go_roundg M
              case rel => exact ⟨k + 1, acc ++ [m], s4, _, by omega, rfl, HC8.out, HR8.out, HBX8.out, HM8.out, by have := own_n HO9.out; rwa [u64s_len] at this, by simp [hlen], HS8.out, H84.out, HX2.out⟩
              case measure => omega
        · have hkN : k = N := by omega
          have HX2 : Hid (X = .ok (acc, s)) := Lib.hid (by rw [← HD.out, hkN]; simp [rdIds])
          go_wp2_with fail
          go_end0
          refine ⟨HC.out, ?_⟩
          rw [HX2.out]
          exact ⟨rfl, HRR.out, mv, ⟨Rd.of_own HO.out, (From.own HO.out).mono (Nat.le_of_lt hwB), UnA.own HO.out⟩, HMM.out⟩
end Go.Proofs.Ytjodgbabfhcilaa
