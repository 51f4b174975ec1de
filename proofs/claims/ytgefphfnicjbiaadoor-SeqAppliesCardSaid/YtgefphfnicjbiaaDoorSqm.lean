/- Layer 25 (seq): awake; entries in memory; SeqOnce step by step, plainly. -/
import Derived.Test.YtgefphfnicjbiaaDoorBun7
import Derived.Test.YtgefphfnicjbiaaDoorBun1
import Derived.Lib.SlBytesConst
set_option linter.unusedSimpArgs false
set_option linter.unusedVariables false
namespace Go.Proofs.YtgefphfnicjbiaaDoor
open Go Go.RowKit

/-- One entry of SeqOnce, plainly. -/
theorem Once.step {b : Bk} {ks : List Key} (h : Once b ks) (k cl sq : Int) (d : List Int) :
    ((applyP b k cl sq d).1 = b ∧ ((applyP b k cl sq d).2.2 = 0 → ∃ j : Nat, (applyP b k cl sq d).2.1 = (j : Int) ∧ ks[j]? = some (cl, sq))) ∨
    (applyP b k cl sq d = (addB b cl sq d, (b.leaves.length : Int), 0) ∧ Once (addB b cl sq d) (ks ++ [(cl, sq)]) ∧ ∀ (j : Nat) x, ks[j]? = some x → x ≠ (cl, sq)) := by
  unfold applyP
  by_cases hk : k = 2
  · simp only [if_pos hk]
    by_cases hf : (findP b cl sq).2 = 8
    · simp only [if_pos hf]
      by_cases hfull : (hitAt (idsB b) cl (posL (idsB b) cl) = false ∧ 8 ≤ b.clients.length) ∨ 64 ≤ b.leaves.length ∨ 64 < d.length
      · simp only [if_pos hfull]
        exact .inl ⟨trivial, fun e => by simp at e⟩
      · simp only [if_neg hfull]
        refine .inr ⟨trivial, h.add hf (fun h1 => Nat.lt_of_not_le fun h2 => hfull (.inl ⟨h1, h2⟩)) (Nat.lt_of_not_le fun h2 => hfull (.inr (.inl h2))) (Nat.le_of_not_lt fun h2 => hfull (.inr (.inr h2))), fun j x hx e => ?_⟩
        subst e
        rcases h.found j _ hx with h1 | h1
        · have h1 : findP b cl sq = ((j : Int), 0) := h1
          rw [h1] at hf; simp at hf
        · have h1 : (findP b cl sq).2 = 13 := h1
          rw [h1] at hf; simp at hf
    · simp only [if_neg hf]
      refine .inl ⟨trivial, fun e => ?_⟩
      obtain ⟨j, h1, h2⟩ := h.done e
      exact ⟨j, h1, h2⟩
  · simp only [if_neg hk]
    exact .inl ⟨trivial, fun e => by simp at e⟩
/-- An entry in memory: what it is, its bytes' value, its members' value. -/
abbrev QE := Ent × Value × Value
def qC (q : QE) : List Value := [.int .u64 q.1.term, .int .i64 q.1.kind, .int .u64 q.1.client, .int .u64 q.1.seq, q.2.1, q.2.2]
def qKey (q : QE) : Key := (q.1.client, q.1.seq)
structure QOk (w : World) (q : QE) : Prop where
  data : Rd w q.2.1 (u8s q.1.data)
  mem : ∃ a n c, q.2.2 = .slice a n c
  len : q.1.data.length ≤ 140737488355328
theorem QOk.ext {w w' : World} {q : QE} (h : QOk w q) (hE : Ext w w') : QOk w' q := ⟨h.data.ext hE, h.mem, h.len⟩
theorem q_one {w : World} {q : QE} (h : QOk w q) : ∀ u ∈ qC q, u.oneCell' = true := fun u hu => by
  obtain ⟨a, n, c, hm⟩ := h.mem
  obtain ⟨a', c', hd, -⟩ := h.data
  simp only [qC, List.mem_cons, List.not_mem_nil, or_false] at hu
  rcases hu with rfl | rfl | rfl | rfl | rfl | rfl
  all_goals first | rfl | (rw [hm]; rfl) | (rw [hd]; rfl)
theorem q_lens (l : List QE) : ∀ r ∈ l.map qC, r.length = 6 := fun r hr => by obtain ⟨q, _, rfl⟩ := List.mem_map.1 hr; rfl
theorem book_nil (w : World) : BookV w (.agg #[.slice none 0 0, .slice none 0 0]) ⟨[], []⟩ := ⟨_, _, [], [], rfl, rfl, rfl, RowV.nil _ _, RowV.nil _ _, (fun q hq => by cases hq), fun q hq => by cases hq⟩
theorem apply_awake : applyP ⟨[], []⟩ 2 7 1 [97] = (⟨[[97]], [⟨7, [(1, 0)]⟩]⟩, 0, 0) := by decide
theorem rd_mark25 (w : World) (l : List Value) (e : TypeId) (fr : Nat × Nat) (he : l.length ≤ maxLen) : Rd (w.alloc (.cells l.toArray e fr)) (.slice (some ⟨w.heap.size, 0, none⟩) l.length l.length) l := by
  refine ⟨_, _, rfl, Nat.le_refl _, he, .inr ⟨w.heap.size, 0, rfl, fun j u hj => ?_⟩⟩
  rw [Nat.zero_add, cell_of_row _ w.heap.size j l.toArray e fr (heap_alloc_new w _)]
  simpa using hj
set_option maxRecDepth 100000 in
set_option maxHeartbeats 4000000 in
theorem awake25_c (w : World) : Calls Tryd.prog 4 #[] w (RetE (.bool true) w) := by
  have hap := fun (w : World) dv hd => apply_c (.agg #[.slice none 0 0, .slice none 0 0]) dv (.slice none 0 0) ⟨[], []⟩ 0 2 7 1 [97] w (book_nil w) BkOk.nil.rise BkOk.nil.bd (by simp) (by simp) hd (by simp) ⟨_, _, _, rfl⟩
  rw [apply_awake] at hap
  have HAP := Lib.hid hap
  have kc := fun (w : World) (C : Array Value) (n c : Nat) => Lib.run_convert_bytes_const (P := Tryd.prog) w 27 5 C n c Tryd.underlying27 Tryd.underlying5
  clear hap
  go_enter Tryd.func4, Tryd.ntmps4
  go_wp2_with fail
  have hr := rd_mark25 w [.int .u8 97] 5 (1, 2) (by unfold maxLen; simp)
  refine (HAP.out _ _ hr).mono ?_
  rintro e w2 ⟨v', rfl, hnb, hE2⟩
  obtain ⟨lv, cv, L, C, rfl, hL, hC, h3, h4, h5, h6⟩ := hnb.book
  obtain ⟨q, rfl⟩ : ∃ q, L = [q] := List.length_eq_one_iff.1 (by have := congrArg List.length hL; simpa using this)
  obtain ⟨c, rfl⟩ : ∃ c, C = [c] := List.length_eq_one_iff.1 (by have := congrArg List.length hC; simpa using this)
  have hq : q.1 = [97] := by simpa using hL
  obtain ⟨la, lc, rfl, hl1, hl2, hlr⟩ := h3
  obtain ⟨ca, cc, rfl, hc1, hc2, -⟩ := h4
  have hrq := h5 q (by simp)
  rw [hq] at hrq
  obtain ⟨b, o, rfl, hcell⟩ : ∃ b o, la = some ⟨b, o, none⟩ ∧ w2.cell? ⟨b, o, none⟩ = some q.2 := by
    rcases hlr with h | ⟨b, o, e, h⟩
    · cases h
    · exact ⟨b, o, e, by have := h 0 (lfR q) rfl 0 q.2 rfl; simpa using this⟩
  obtain ⟨qa, qc, hqv, hq1, hq2, -⟩ := hrq
  have hrq := h5 q (by simp)
  rw [hq] at hrq
  rw [hqv] at hrq hcell
  have HRQ := Lib.hid hrq
  have hs : strOfNums [97] = ⟨#[97]⟩ := rfl
  have cv := (hrq.ext (Ext.alloc w2 (.cells #[.slice (some ⟨b, o, none⟩) 1 lc, .slice ca 1 cc] 25))).convert Tryd.underlying27 Tryd.underlying5 Tryd.underlying9
  have hcell2 := (Ext.alloc w2 (.cells #[.slice (some ⟨b, o, none⟩) 1 lc, .slice ca 1 cc] 25)).cell hcell
  rw [hs] at cv
  clear kc hr hL hC h5 h6 hq hlr hs hqv hnb hrq
  simp only [List.map_cons, List.map_nil, List.length_cons, List.length_nil, Nat.zero_add]
  go_wp2_with fail
  go_ret
  exact ⟨rfl, ((Ext.alloc _ _).trans hE2).trans (Ext.alloc _ _)⟩
end Go.Proofs.YtgefphfnicjbiaaDoor
