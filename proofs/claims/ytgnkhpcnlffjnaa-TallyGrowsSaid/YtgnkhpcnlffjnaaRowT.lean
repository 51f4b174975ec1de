/- From a walk to a law's row: members, peers and logs opened. -/
import Derived.Test.YtgnkhpcnlffjnaaRowG
import Derived.Test.YtgnkhpcnlffjnaaTlyV
import Derived.Deep.Slices
import Derived.Deep.Fields
namespace Go.Proofs.Ytgnkhpcnlffjnaa
open Go Go.RowKit Go.ChangeShapes Go.WideShapes Go.ChangeAt Go.Deep

theorem cells64 : Try.prog.cellsOf 26 = 1 := by kernel_rfl
theorem bytes64 : Try.prog.bytesOf 26 = 8 := by kernel_rfl
theorem cellsF : Try.prog.cellsOf 36 = 1 := by kernel_rfl
theorem cellsP : Try.prog.cellsOf 40 = 8 := by kernel_rfl
theorem cellsG : Try.prog.cellsOf 38 = 5 := by kernel_rfl
theorem cellsE : Try.prog.cellsOf 45 = 6 := by kernel_rfl
theorem cellsLog : Try.prog.cellsOf 30 = 3 := by kernel_rfl
theorem cellsEs : Try.prog.cellsOf 28 = 1 := by kernel_rfl
theorem bytesE : Try.prog.bytesOf 45 = 80 := by kernel_rfl

theorem trod_float {H : Type} {enc : TypeId × Value → H} {P : Program} {w : World} {base fuel : Nat} {spare : Nat → Bool} {held : Bool} {t : TypeId} {k : FloatKind} {cs : List Value} {x : DataW H × List MemPlace}
    (ht : P.underlying t = some (.float k)) (h : DataW.trod enc P w base spare held fuel t cs = some x) : ∃ n, cs = [.float k n] := by
  cases fuel with
  | zero => simp [DataW.trod] at h
  | succ n =>
    unfold DataW.trod at h
    rw [ht] at h
    split at h <;> simp_all

theorem u64s_open {H : Type} {enc : TypeId × Value → H} {W : World} {base : Nat} {sp : Nat → Bool} {held : Bool} {v : Value} {d : DataW H} {ps : List MemPlace} {r : Reach} {b0 : Nat}
    (hv : Value.okWide Try.prog W r b0 22 v) (h : DataW.Trod enc Try.prog W base sp held 22 v d ps) (hz : ∀ n ∈ d.weights Try.prog 22, n ≤ reachBytes) :
    ∃ xs : List Int, Rd W v (u64s xs) ∧ B64 xs ∧ xs.length ≤ 17592186044416 := by
  obtain ⟨a, l, c, rfl⟩ := okWide_slice Try.underlying22 hv
  obtain ⟨fuel, hf⟩ := h
  obtain ⟨v', xs, e, h1, h2, h3⟩ := rd_of_trod Try.underlying22 Try.underlying26 cells64 hf hz
  rw [bytes64] at h3
  unfold reachBytes at h3
  have e' : Value.slice a l c = v' := by simpa [Value.cells] using e
  subst e'
  exact ⟨xs, h1, fun z hz => u64_wf (h2 z hz), by omega⟩

theorem list8 {α : Type} {l : List α} (h : l.length = 8) : ∃ a b c d e f g i, l = [a, b, c, d, e, f, g, i] := by
  match l, h with
  | [a, b, c, d, e, f, g, i], _ => exact ⟨a, b, c, d, e, f, g, i, rfl⟩
/-- A peer's numbers are such that 64 bits hold them; each cell holds a plain value. -/
structure PeerOk (p : PeerC) : Prop where
  id : U64 p.id
  mtch : U64 p.mtch
  one : ∀ u ∈ pcell p, u.oneCell' = true

theorem peer_of_trod {H : Type} {enc : TypeId × Value → H} {W : World} {base fuel : Nat} {sp : Nat → Bool} {held : Bool} {cs : List Value} {x : DataW H × List MemPlace}
    (h : DataW.trod enc Try.prog W base sp held fuel 40 cs = some x) : ∃ p : PeerC, cs = (pcell p).toList ∧ PeerOk p := by
  obtain ⟨xs, n, _, _, hl, hxl, hf⟩ := DataW.trod_struct Try.underlying40 h
  rw [cellsP] at hl
  obtain ⟨c0, c1, c2, c3, c4, c5, c6, c7, rfl⟩ := list8 hl
  obtain ⟨y0, y1, y2, y3, rfl⟩ : ∃ a b c d, xs = [a, b, c, d] := by
    match xs, hxl with
    | [a, b, c, d], _ => exact ⟨a, b, c, d, rfl⟩
  have h0 := hf 0 _ rfl; have h1 := hf 1 _ rfl; have h2 := hf 2 _ rfl; have h3 := hf 3 _ rfl
  simp [cells64, cellsG] at h0 h1 h2 h3
  obtain ⟨i, e0, _, w0⟩ := DataW.trod_int Try.underlying26 h0
  obtain ⟨nx, e1, _, w1⟩ := DataW.trod_int Try.underlying26 h1
  obtain ⟨m, e2, _, w2⟩ := DataW.trod_int Try.underlying26 h2
  obtain ⟨ys, n', _, _, hl3, hyl, hg⟩ := DataW.trod_struct Try.underlying38 h3
  obtain ⟨z0, z1, z2, z3, z4, rfl⟩ : ∃ a b c d e, ys = [a, b, c, d, e] := by
    match ys, hyl with
    | [a, b, c, d, e], _ => exact ⟨a, b, c, d, e, rfl⟩
  have g0 := hg 0 _ rfl; have g1 := hg 1 _ rfl; have g2 := hg 2 _ rfl; have g3 := hg 3 _ rfl; have g4 := hg 4 _ rfl
  simp [cells64, cellsF] at g0 g1 g2 g3 g4
  obtain ⟨q0, k0, _, _⟩ := DataW.trod_int Try.underlying26 g0
  obtain ⟨q1, k1⟩ := trod_float Try.underlying36 g1
  obtain ⟨q2, k2⟩ := trod_float Try.underlying36 g2
  obtain ⟨q3, k3⟩ := trod_float Try.underlying36 g3
  obtain ⟨q4, k4⟩ := trod_float Try.underlying36 g4
  simp only [List.cons.injEq, and_true] at e0 e1 e2 k0 k1 k2 k3 k4
  subst e0 e1 e2 k0 k1 k2 k3 k4
  refine ⟨⟨i, nx, m, _, _, _, _, _⟩, rfl, ⟨u64_wf w0, u64_wf w2, fun u hu => ?_⟩⟩
  simp [pcell] at hu
  rcases hu with rfl | rfl | rfl | rfl | rfl | rfl | rfl | rfl <;> rfl

theorem peers_of_trod {H : Type} {enc : TypeId × Value → H} {W : World} {base fuel : Nat} {sp : Nat → Bool} {held : Bool} {cs : List Value} {x : DataW H × List MemPlace}
    (h : DataW.trod enc Try.prog W base sp held fuel 23 cs = some x) : ∃ (v : Value) (ps : List PeerC), cs = [v] ∧ PeersV W v ps ∧ ∀ p ∈ ps, PeerOk p := by
  rcases open_slice Try.underlying23 h with ⟨rfl, _⟩ | ⟨a, len, cap, m, n, D, Pl, rfl, _, hl, hm, hmm, _, hi⟩
  · exact ⟨_, [], rfl, ⟨none, 0, rfl, Nat.le_refl _, by unfold maxLen; omega, .inl rfl⟩, fun p hp => by cases hp⟩
  · have hlm : len ≤ m := by rw [hmm]; split <;> omega
    rw [cellsP] at hi
    have key : ∀ i, ∃ p : PeerC, i < len → (∀ j u, (pcell p)[j]? = some u → W.cell? (a.add (i * 8 + j)) = some u) ∧ PeerOk p := fun i => by
      by_cases hil : i < len
      · obtain ⟨cs', hc, ht⟩ := hi i (by omega)
        obtain ⟨p, rfl, hp⟩ := peer_of_trod ht
        obtain ⟨_, hcl, hat⟩ := World.cells?_some hc
        refine ⟨p, fun _ => ⟨fun j u hu => ?_, hp⟩⟩
        have hj : j < 8 := by have := (Array.getElem?_eq_some_iff.1 hu).1; simpa [pcell] using this
        rw [← Go.Deep.add_add, hat j hj, Array.getElem?_toList]; exact hu
      · exact ⟨⟨0, 0, 0, undef, undef, undef, undef, undef⟩, fun h => absurd h hil⟩
    obtain ⟨f, hf⟩ := Classical.skolem.1 key
    refine ⟨_, (List.range len).map f, rfl, ⟨some a, cap, by simp, by simpa using hl, hm, ?_⟩, fun p hp => ?_⟩
    · by_cases h0 : len = 0
      · left; subst h0; simp
      · right
        obtain ⟨b, o, s⟩ := a
        have hc0 := (hf 0 (by omega)).1 0 _ rfl
        have hs : s = none := by
          cases s with
          | none => rfl
          | some q =>
            exfalso
            have : (⟨b, o, some q⟩ : Addr).add (0 * 8 + 0) = ⟨b, o, some q⟩ := by simp [Addr.add]
            rw [this] at hc0
            unfold World.cell? at hc0
            split at hc0 <;> simp at hc0
        subst hs
        refine ⟨b, o, rfl, fun j p hp i u hu => ?_⟩
        have hj : j < len := by have := (List.getElem?_eq_some_iff.1 hp).1; simpa using this
        have hpj : p = f j := by simpa [hj] using hp.symm
        subst hpj
        have := (hf j hj).1 i u hu
        rw [Addr.add_lit] at this
        rw [Nat.add_assoc]; exact this
    · obtain ⟨j, hj, rfl⟩ := List.mem_map.1 hp
      exact (hf j (List.mem_range.1 hj)).2

theorem peers_open {H : Type} {enc : TypeId × Value → H} {W : World} {base : Nat} {sp : Nat → Bool} {held : Bool} {v : Value} {d : DataW H} {ps : List MemPlace} {r : Reach} {b0 : Nat}
    (hv : Value.okWide Try.prog W r b0 23 v) (h : DataW.Trod enc Try.prog W base sp held 23 v d ps) (_hz : ∀ n ∈ d.weights Try.prog 23, n ≤ reachBytes) :
    ∃ xs : List PeerC, PeersV W v xs ∧ ∀ p ∈ xs, PeerOk p := by
  obtain ⟨a, l, c, rfl⟩ := okWide_slice Try.underlying23 hv
  obtain ⟨fuel, hf⟩ := h
  obtain ⟨v', xs, e, h1, h2⟩ := peers_of_trod hf
  have e' : Value.slice a l c = v' := by simpa [Value.cells] using e
  subst e'
  exact ⟨xs, h1, h2⟩

theorem terms_of_trod {H : Type} {enc : TypeId × Value → H} {W : World} {base fuel : Nat} {sp : Nat → Bool} {held : Bool} {cs : List Value} {x : DataW H × List MemPlace}
    (h : DataW.trod enc Try.prog W base sp held fuel 28 cs = some x) (hz : ∀ n ∈ x.1.weights Try.prog 28, n ≤ reachBytes) :
    ∃ (a : Option Addr) (c : Nat) (ts : List Int), cs = [.slice a ts.length c] ∧ ts.length ≤ c ∧ c ≤ maxLen ∧ ts.length ≤ 140737488355328 ∧ (ts = [] ∨ ∃ b o, a = some ⟨b, o, none⟩ ∧ ∀ j t, ts[j]? = some t → W.cell? ⟨b, o + j * 6, none⟩ = some (.int .u64 t)) := by
  rcases open_slice Try.underlying28 h with ⟨rfl, _⟩ | ⟨a, len, cap, m, n, D, Pl, rfl, _, hl, hm, hmm, rfl, hi⟩
  · exact ⟨none, 0, [], rfl, Nat.le_refl _, by unfold maxLen; omega, by simp, .inl rfl⟩
  · have hlm : len ≤ m := by rw [hmm]; split <;> omega
    have hlen : len ≤ 140737488355328 := by
      have := hz _ (by simp [DataW.weights, Try.underlying28]; exact .inl rfl)
      rw [bytesE] at this
      unfold reachBytes at this
      have h2 : len * 80 ≤ 140737488351232 := Nat.le_trans (Nat.mul_le_mul_right _ (by simp)) this
      omega
    rw [cellsE] at hi
    have key : ∀ i, ∃ t : Int, i < len → W.cell? (a.add (i * 6)) = some (.int .u64 t) := fun i => by
      by_cases hil : i < len
      · obtain ⟨cs', hc, ht⟩ := hi i (by omega)
        obtain ⟨xs, n', _, _, hl6, hxl, hf⟩ := DataW.trod_struct Try.underlying45 ht
        rw [cellsE] at hl6
        obtain ⟨c0, c1, c2, c3, c4, c5, rfl⟩ := list6 hl6
        obtain ⟨y0, y1, y2, y3, y4, y5, rfl⟩ := list6 (show xs.length = 6 from hxl)
        have h0 := hf 0 _ rfl
        simp [cells64] at h0
        obtain ⟨t, e0, _, _⟩ := DataW.trod_int Try.underlying26 h0
        simp only [List.cons.injEq, and_true] at e0
        subst e0
        obtain ⟨_, _, hat⟩ := World.cells?_some hc
        exact ⟨t, fun _ => hat 0 (by omega)⟩
      · exact ⟨0, fun h => absurd h hil⟩
    obtain ⟨f, hf⟩ := Classical.skolem.1 key
    refine ⟨some a, cap, (List.range len).map f, by simp, by simpa using hl, hm, by simpa using hlen, ?_⟩
    by_cases h0 : len = 0
    · left; subst h0; simp
    · right
      obtain ⟨b, o, s⟩ := a
      have hc0 := hf 0 (by omega)
      have hs : s = none := by
        cases s with
        | none => rfl
        | some q =>
          exfalso
          have : (⟨b, o, some q⟩ : Addr).add (0 * 6) = ⟨b, o, some q⟩ := by simp [Addr.add]
          rw [this] at hc0
          unfold World.cell? at hc0
          split at hc0 <;> simp at hc0
      subst hs
      refine ⟨b, o, rfl, fun j t hj => ?_⟩
      have hjl : j < len := by have := (List.getElem?_eq_some_iff.1 hj).1; simpa using this
      have hpj : t = f j := by simpa [hjl] using hj.symm
      subst hpj
      have := hf j hjl
      rw [Addr.add_lit] at this
      exact this

theorem list3 {α : Type} {l : List α} (h : l.length = 3) : ∃ a b c, l = [a, b, c] := by
  match l, h with
  | [a, b, c], _ => exact ⟨a, b, c, rfl⟩
theorem log_open {H : Type} {enc : TypeId × Value → H} {W : World} {base : Nat} {sp : Nat → Bool} {held : Bool} {v : Value} {d : DataW H} {ps : List MemPlace} {r : Reach} {b0 : Nat}
    (hv : Value.okWide Try.prog W r b0 30 v) (h : DataW.Trod enc Try.prog W base sp held 30 v d ps) (hz : ∀ n ∈ d.weights Try.prog 30, n ≤ reachBytes) :
    ∃ (lb bt : Int) (ts : List Int), LogV W v lb bt ts ∧ U64 lb ∧ ts.length ≤ 140737488355328 := by
  obtain ⟨cs, rfl, hsz⟩ := okWide_struct Try.underlying30 hv
  obtain ⟨fuel, hf⟩ := h
  obtain ⟨xs, n, _, hx, hl, hxl, hg⟩ := DataW.trod_struct Try.underlying30 hf
  obtain ⟨cs⟩ := cs
  simp only [Value.cells] at hl hg hx
  rw [cellsLog] at hl
  obtain ⟨c0, c1, c2, rfl⟩ := list3 hl
  obtain ⟨y0, y1, y2, rfl⟩ := list3 (show xs.length = 3 from hxl)
  have h0 := hg 0 _ rfl; have h1 := hg 1 _ rfl; have h2 := hg 2 _ rfl
  simp [cells64, cellsEs] at h0 h1 h2
  obtain ⟨lb, e0, _, w0⟩ := DataW.trod_int Try.underlying26 h0
  obtain ⟨bt, e1, _, w1⟩ := DataW.trod_int Try.underlying26 h1
  obtain ⟨rfl, rfl⟩ := Prod.mk.inj hx
  obtain ⟨a, c, ts, e2, q1, q2, q3, q4⟩ := terms_of_trod h2 fun n hn => hz n (by
    simp [DataW.weights, Try.underlying30, DataW.weightsEach]
    first | exact hn | exact .inr hn | exact .inr (.inr hn))
  simp only [List.cons.injEq, and_true] at e0 e1 e2
  subst e0 e1 e2
  exact ⟨lb, bt, ts, ⟨a, c, rfl, q1, q2, q4⟩, u64_wf w0, q3⟩
end Go.Proofs.Ytgnkhpcnlffjnaa
