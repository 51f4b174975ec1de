/- tabellionlaw08: scripts in memory; few. -/
import Derived.Test.YtmffknllnjagoaaDoorTw
set_option linter.unusedSimpArgs false
set_option linter.unusedVariables false
namespace Go.Proofs.YtmffknllnjagoaaDoor
open Go Go.RowKit Go.Maps Go.Sort

/-- The cells of a call of a script. -/
def oC (o : LO) (bv kv : Value) : List Value := [.int .i64 o.kind, .string o.name, .string o.nto, .int .i64 o.n, bv, kv]
/-- v is a script. -/
def OpsV (w : World) (v : Value) (xs : List LO) : Prop := ∃ a c, v = .slice a xs.length c ∧ xs.length ≤ c ∧ c ≤ maxLen ∧
  (xs = [] ∨ ∃ b o, a = some ⟨b, o, none⟩ ∧ ∀ (i : Nat) x, xs[i]? = some x → ∃ bv kv, Rd w bv (u8s x.b) ∧ Rd w kv (x.keep.map Value.bool) ∧ ∀ (j : Nat) u, (oC x bv kv)[j]? = some u → w.cell? ⟨b, o + i * 6 + j, none⟩ = some u)
theorem OpsV.ext {w w' : World} {v : Value} {xs : List LO} (h : OpsV w v xs) (hE : Ext w w') : OpsV w' v xs := by
  obtain ⟨a, c, hv, h1, h2, h3⟩ := h
  refine ⟨a, c, hv, h1, h2, h3.imp id ?_⟩
  rintro ⟨b, o, ha, h⟩
  exact ⟨b, o, ha, fun i x hx => by obtain ⟨bv, kv, k1, k2, k3⟩ := h i x hx; exact ⟨bv, kv, k1.ext hE, k2.ext hE, fun j u hj => hE.cell (k3 j u hj)⟩⟩
theorem OpsV.at {w : World} {a : Option Addr} {n c : Nat} {xs : List LO}
    (h : xs = [] ∨ ∃ b o, a = some ⟨b, o, none⟩ ∧ ∀ (i : Nat) x, xs[i]? = some x → ∃ bv kv, Rd w bv (u8s x.b) ∧ Rd w kv (x.keep.map Value.bool) ∧ ∀ (j : Nat) u, (oC x bv kv)[j]? = some u → w.cell? ⟨b, o + i * 6 + j, none⟩ = some u) {i : Nat} {x : LO} (hx : xs[i]? = some x) :
    ∃ b o bv kv, a = some ⟨b, o, none⟩ ∧ Rd w bv (u8s x.b) ∧ Rd w kv (x.keep.map Value.bool) ∧ w.cell? ⟨b, o + i * 6, none⟩ = some (.int .i64 x.kind) ∧ w.cell? ⟨b, o + i * 6 + 1, none⟩ = some (.string x.name) ∧ w.cell? ⟨b, o + i * 6 + 2, none⟩ = some (.string x.nto) ∧
      w.cell? ⟨b, o + i * 6 + 3, none⟩ = some (.int .i64 x.n) ∧ w.cell? ⟨b, o + i * 6 + 4, none⟩ = some bv ∧ w.cell? ⟨b, o + i * 6 + 5, none⟩ = some kv := by
  rcases h with h | ⟨b, o, ha, h⟩
  · rw [h] at hx; simp at hx
  · obtain ⟨bv, kv, h1, h2, h3⟩ := h i x hx
    exact ⟨b, o, bv, kv, ha, h1, h2, h3 0 _ rfl, h3 1 _ rfl, h3 2 _ rfl, h3 3 _ rfl, h3 4 _ rfl, h3 5 _ rfl⟩
/-- A call within the bounds that are looked at. -/
def Few (x : LO) : Prop := x.b.length ≤ 5000 ∧ (x.n ≤ 5000 ∨ 1048576 < x.n)
set_option maxRecDepth 100000 in
set_option maxHeartbeats 2000000 in
theorem few_c (v : Value) (xs : List LO) (w : World) (h : OpsV w v xs) (hok : ∀ x ∈ xs, LOk x) :
    Calls Tryd.prog 19 #[v] w fun e w' => w' = w ∧ ∃ fb, e = .returned (.bool fb) ∧ (fb = true → ∀ (i : Nat) x, i < 60 → xs[i]? = some x → Few x) := by
  obtain ⟨a, c, rfl, hc1, hc2, hc3⟩ := h
  replace hc2 : c ≤ 9223372036854775807 := by unfold maxLen at hc2; omega
  obtain ⟨N, hN⟩ : ∃ N, N = xs.length := ⟨_, rfl⟩
  rw [← hN] at hc1 ⊢
  have HC := Lib.hid hc3; have HN := Lib.hid hN; have HOK := Lib.hid hok
  clear hc3 hN hok
  go_enter Tryd.func19, Tryd.ntmps19
  go_wp2_with fail
  go_loopg [3, 4] 60 (fun g nv iv wr => ∃ (i : Nat) (s : Int), nv = .int .i64 s ∧ iv = .int .i64 (i : Int) ∧ i + g = 60 ∧ 0 ≤ s ∧ s ≤ 5000 * (i : Int) ∧ wr = w ∧ ∀ (j : Nat) x, j < i → xs[j]? = some x → Few x)
  case atStart => exact ⟨0, 0, rfl, rfl, by omega, by omega, by omega, rfl, by intro j x hj; omega⟩
  case round =>
    obtain ⟨i, s, rfl, rfl, hi, hs0, hs1, rfl, hfew⟩ := hrel
    have HF := Lib.hid hfew
    clear hfew
    by_cases hlt : i < N
    · by_cases h60 : i < 60
      · obtain ⟨x, hx⟩ : ∃ x, xs[i]? = some x := ⟨_, List.getElem?_eq_getElem (by rw [← HN.out]; exact hlt)⟩
        obtain ⟨b, o, bv, kv, rfl, hb, hk, c0, c1, c2, c3, c4, c5⟩ := OpsV.at (n := N) (c := c) HC.out hx
        obtain ⟨ba, bc, rfl, hbl, hbc, _⟩ := hb
        have hbl2 : (u8s x.b).length = x.b.length := u8s_len _
        have ok := HOK.out x (List.mem_of_getElem? hx)
        have hn0 := ok.n0; have hn1 := ok.n1
        obtain ⟨L, hL⟩ : ∃ L, L = x.b.length := ⟨_, rfl⟩
        obtain ⟨p, hp⟩ : ∃ p, p = x.n := ⟨_, rfl⟩
        rw [hbl2, ← hL] at c4 hbl
        rw [← hp] at c3 hn0 hn1
        have hbL : L ≤ 9223372036854775807 := by unfold maxLen at hbc; omega
        have HL := Lib.hid hL; have HP := Lib.hid hp; have HX := Lib.hid hx
        clear hbl2 hL hp hx hk c0 c1 c2 c5 ok hbl hbc
        by_cases hb5 : 5000 < (L : Int)
        · go_wp2_with fail
          go_ret
          exact ⟨rfl, false, rfl, fun h => by cases h⟩
        · have hb5' : (L : Int) ≤ 5000 := by omega
          clear hb5
          by_cases hp1 : 5000 < p
          · by_cases hp2 : p ≤ 1048576
            · go_wp2_with fail
              go_ret
              exact ⟨rfl, false, rfl, fun h => by cases h⟩
            · have hp2' : 1048576 < p := by omega
              clear hp2
              go_wp2_with fail
              go_roundg (60 - (i + 1))
              case measure => omega
              case rel => exact ⟨i + 1, _, rfl, by go_num, by omega, by omega, by omega, rfl, fun j y hj hy => by
                rcases Nat.lt_or_ge j i with h | h
                · exact HF.out j y h hy
                · obtain rfl : j = i := by omega
                  rw [HX.out] at hy; cases hy
                  exact ⟨by have := HL.out; omega, .inr (by rw [← HP.out]; exact hp2')⟩⟩
          · have hp1' : p ≤ 5000 := by omega
            clear hp1
            go_wp2_with fail
            go_roundg (60 - (i + 1))
            case measure => omega
            case rel => exact ⟨i + 1, _, rfl, by go_num, by omega, by omega, by omega, rfl, fun j y hj hy => by
                rcases Nat.lt_or_ge j i with h | h
                · exact HF.out j y h hy
                · obtain rfl : j = i := by omega
                  rw [HX.out] at hy; cases hy
                  exact ⟨by have := HL.out; omega, .inl (by rw [← HP.out]; exact hp1')⟩⟩
      · have h60' : (60 : Int) ≤ (i : Int) := by omega
        clear h60
        go_wp2_with fail
        go_ret
        exact ⟨rfl, _, rfl, fun _ j x hj hx => HF.out j x (by omega) hx⟩
    · have hge : (N : Int) ≤ (i : Int) := by omega
      clear hlt
      go_wp2_with fail
      go_ret
      exact ⟨rfl, _, rfl, fun _ j x hj hx => HF.out j x (by have := (List.getElem?_eq_some_iff.1 hx).1; have := HN.out; omega) hx⟩
end Go.Proofs.YtmffknllnjagoaaDoor
