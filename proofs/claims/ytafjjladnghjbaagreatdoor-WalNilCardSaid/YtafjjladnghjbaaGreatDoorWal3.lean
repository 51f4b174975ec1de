/- Layer 9 (wal): Open: no name, no disk, an empty disk. -/
import Derived.Test.YtafjjladnghjbaaGreatDoorWal2
import Derived.Test.YtafjjladnghjbaaGreatDoorWlA
namespace Go.Proofs.YtafjjladnghjbaaGreatDoor
open Go Go.RowKit Go.Maps

/-- What Open leaves where it refuses. -/
def OpnNo (no : Int) (w : World) (e : Ending) (w' : World) : Prop := e = .returned (.tuple #[.pointer none, .int .i64 no]) ∧ Ext w w'
theorem opn_no {no : Int} {w F : World} {g : Nat} (tmps : Array Value) (h4 : tmps[4]? = some (ptr g)) (h5 : tmps[5]? = some (ptr (g + 1)))
    (c4 : F.cell? ⟨g, 0, none⟩ = some (.pointer none)) (c5 : F.cell? ⟨g + 1, 0, none⟩ = some (.int .i64 no)) (hE : Ext w F) :
    bodyPostD Tryz.prog Tryz.f9 (OpnNo no w) .ret { tmps := tmps, defers := [] } F := by
  simp [bodyPostD, Leaves, settle, results, Tryz.results9, go_sem, h4, h5, c4, c5]
  exact ⟨rfl, hE⟩
theorem opn_set {no : Int} {w w1 : World} {x y : Value} {tx ty : TypeId} (tmps : Array Value) (h4 : tmps[4]? = some (ptr w.heap.size)) (h5 : tmps[5]? = some (ptr (w.heap.size + 1)))
    (hP : Blk w1 w.heap.size #[x] tx) (hQ : Blk w1 (w.heap.size + 1) #[y] ty) (hE : Ext w w1) :
    bodyPostD Tryz.prog Tryz.f9 (OpnNo no w) .ret { tmps := tmps, defers := [] } ((w1.setCell ⟨w.heap.size, 0, none⟩ (.pointer none)).setCell ⟨w.heap.size + 1, 0, none⟩ (.int .i64 no)) := by
  have hP1 := (hP.set 0 (.pointer none)).other ⟨w.heap.size + 1, 0, none⟩ (.int .i64 no) (by simp)
  have hQ1 := (hQ.other ⟨w.heap.size, 0, none⟩ (.pointer none) (by simp)).set 0 (.int .i64 no)
  refine opn_no tmps h4 h5 (hP1.cell 0 (by simp)) (hQ1.cell 0 (by simp)) ?_
  have hC : Chg [w.heap.size, w.heap.size + 1] w1 ((w1.setCell ⟨w.heap.size, 0, none⟩ (.pointer none)).setCell ⟨w.heap.size + 1, 0, none⟩ (.int .i64 no)) := (Chg.set _ 0 _ (by simp)).setNew _ 0 _ (.inl (by simp))
  exact ((Chg.ext hE : Chg [w.heap.size, w.heap.size + 1] w w1).trans hC).toExt (fun t ht => by simp at ht; omega)
/-- Open's two cells, just laid. -/
def OpnW (no : Int) (w : World) : World := (w.alloc (.cells #[.pointer none] 25)).alloc (.cells #[.int .i64 no] 26)
theorem OpnW.ext (no : Int) (w : World) : Ext w (OpnW no w) := (Ext.alloc w _).trans (Ext.alloc _ _)
theorem OpnW.p (no : Int) (w : World) : Blk (OpnW no w) w.heap.size #[.pointer none] 25 := (Blk.new w _ _).alloc _
theorem OpnW.q (no : Int) (w : World) : Blk (OpnW no w) (w.heap.size + 1) #[.int .i64 no] 26 := by
  have := Blk.new (w.alloc (.cells #[.pointer none] 25)) #[.int .i64 no] 26
  rwa [show (w.alloc (.cells #[.pointer none] 25)).heap.size = w.heap.size + 1 by simp] at this
set_option maxRecDepth 100000 in
set_option maxHeartbeats 1000000 in
/-- A name that is none. -/
theorem wopen_arg (dv : Value) (s : ByteArray) (w : World) (hs : s.size ≤ maxLen) (h : named4 s = false) :
    Calls Tryz.prog 9 #[dv, .string s] w (OpnNo 1 w) := by
  by_cases h0 : s.size = 0
  · obtain rfl : s = ⟨#[]⟩ := by
      cases s with | mk a => have : a = #[] := Array.eq_empty_of_size_eq_zero h0; rw [this]
    clear h
    go_enter_defers Tryz.func9, Tryz.ntmps9
    go_wp2_with fail
    exact opn_no _ rfl rfl ((OpnW.p 1 w).cell 0 rfl) ((OpnW.q 1 w).cell 0 rfl) (OpnW.ext 1 w)
  · have he := size_ne (show 0 < s.size by omega)
    replace hs : s.size ≤ 9223372036854775807 := by unfold maxLen at hs; omega
    by_cases h4 : s.size ≤ 4
    · have hi : (s.size : Int) ≤ 4 := by omega
      obtain ⟨T, hT⟩ : ∃ T, T = Lib.trimS s.data.toList alSet := ⟨_, rfl⟩
      have ht : T.isEmpty = false := by
        cases T with
        | nil =>
          have := (trimS_nil s.data.toList alSet).1 hT.symm
          unfold named4 at h
          rw [this, decide_eq_true (show 0 < s.size by omega), decide_eq_true h4] at h; cases h
        | cons x r => rfl
      have htl : (⟨T.toArray⟩ : ByteArray).toList = T := by rw [Lib.toList_data]
      have HT := Lib.hid hT
      clear h h0 h4 hT
      go_enter_defers Tryz.func9, Tryz.ntmps9
      go_wp2_with fail
      have HE0 := Lib.hid (OpnW.ext 0 w); have HP := Lib.hid (OpnW.p 0 w); have HQ := Lib.hid (OpnW.q 0 w)
      unfold OpnW at *
      generalize (w.alloc (.cells #[.pointer none] 25)).alloc (.cells #[.int .i64 0] 26) = W0 at *
      refine (trim4_c s W0 hs).mono ?_
      rintro e w1 ⟨rfl, hE⟩
      have HP1 := Lib.hid (HP.out.ext hE); have HQ1 := Lib.hid (HQ.out.ext hE); have HE1 := Lib.hid (HE0.out.trans hE)
      rw [← HT.out]
      clear hE HP HQ HE0
      have p0 := HP1.out.cell 0 rfl
      have q0 := HQ1.out.cell 0 rfl
      have pf := HP1.out.free 0
      have qf := HQ1.out.free 0
      go_wp2_with fail
      exact opn_set _ rfl rfl HP1.out HQ1.out HE1.out
    · have hi : (4 : Int) < s.size := by omega
      clear h h0 h4
      go_enter_defers Tryz.func9, Tryz.ntmps9
      go_wp2_with fail
      exact opn_no _ rfl rfl ((OpnW.p 1 w).cell 0 rfl) ((OpnW.q 1 w).cell 0 rfl) (OpnW.ext 1 w)
set_option maxRecDepth 100000 in
set_option maxHeartbeats 1000000 in
/-- No disk. -/
theorem wopen_nil (s : ByteArray) (w : World) (h : named4 s = true) : Calls Tryz.prog 9 #[.pointer none, .string s] w (OpnNo 6 w) := by
  obtain ⟨h0, h4, ht⟩ := named4_parts h
  have he := size_ne h0
  have hi : (s.size : Int) ≤ 4 := by omega
  have htl : (⟨(Lib.trimS s.data.toList alSet).toArray⟩ : ByteArray).toList = [] := by rw [Lib.toList_data]; exact ht
  have HT := Lib.hid ht; have HTL := Lib.hid htl
  clear h h0 ht htl
  go_enter_defers Tryz.func9, Tryz.ntmps9
  go_wp2_with fail
  have HE0 := Lib.hid (OpnW.ext 0 w); have HP := Lib.hid (OpnW.p 0 w); have HQ := Lib.hid (OpnW.q 0 w)
  unfold OpnW at *
  generalize (w.alloc (.cells #[.pointer none] 25)).alloc (.cells #[.int .i64 0] 26) = W0 at *
  refine (trim4_c s W0 (by omega)).mono ?_
  rintro e w1 ⟨rfl, hE⟩
  have HP1 := Lib.hid (HP.out.ext hE); have HQ1 := Lib.hid (HQ.out.ext hE); have HE1 := Lib.hid (HE0.out.trans hE)
  rw [HT.out]
  clear hE HP HQ HE0
  have p0 := HP1.out.cell 0 rfl
  have q0 := HQ1.out.cell 0 rfl
  have pf := HP1.out.free 0
  have qf := HQ1.out.free 0
  have htl : (⟨([] : List UInt8).toArray⟩ : ByteArray).toList = [] := by rw [Lib.toList_data]
  go_wp2_with fail
  exact opn_set _ rfl rfl HP1.out HQ1.out HE1.out
set_option maxHeartbeats 400000 in
theorem whead_c (l d : Nat) (name : ByteArray) (first last : Int) (recs segs : Value) (ov : Bool) (w : World) (hB : LogB w l d name first recs segs last ov) (hs : name.size ≤ 4) :
    Calls Tryz.prog 35 #[lptr l] w fun e w' => e = .returned (.string (headN name)) ∧ w' = w := by
  have c1 : w.cell? ⟨l, 1, none⟩ = some (.string name) := (show Blk w l _ _ from hB).cell 1 rfl
  have hs6 : ¬ 9223372036854775807 < name.size + 6 := by omega
  clear hB
  go_enter Tryz.func35, Tryz.ntmps35
  go_wp2_with fail
  go_ret
  exact ⟨rfl, rfl⟩
theorem headN_size (name : ByteArray) : (headN name).size = name.size + 6 := by
  unfold headN; rw [ByteArray.size_append]; rfl
theorem readS_empty {S : Dk} (name : ByteArray) (h : S.off = false) (h0 : S.now = []) : readS S name = ([], 8) := by
  unfold readS; rw [if_neg (by rw [h]; simp), h0]; rfl
/-- What Open leaves on a fresh disk. -/
def OpnOk (d : Nat) (name : ByteArray) (w : World) (e : Ending) (w' : World) : Prop := ∃ l, e = .returned (.tuple #[lptr l, .int .i64 0]) ∧ LogB w' l d name 0 (.slice none 0 0) (.slice none 0 0) 0 false ∧ w.heap.size ≤ l ∧ Ext w w'
set_option maxRecDepth 100000 in
set_option maxHeartbeats 2000000 in
/-- A fresh disk. -/
theorem wopen_fresh (d n M : Nat) (O F : List Nat) (S : Dk) (name : ByteArray) (w : World) (h : DkS w d n M O F S) (hM : M ≤ 70368744177664) (hn9 : n < 1000000000) (hn : named4 name = true) (hoff : S.off = false) (h0 : S.now = []) (h1 : S.waits = []) :
    Calls Tryz.prog 9 #[dptr d, .string name] w (OpnOk d name w) := by
  have hmf : ∀ (fn : Fn) (first cap : Array Value) (w : World), (Instr.makeFunc fn first cap).run Tryz.prog w = .ok (.func fn first cap) w := fun _ _ _ _ => rfl
  obtain ⟨hz, h4, ht⟩ := named4_parts hn
  have he := size_ne hz
  have hi : (name.size : Int) ≤ 4 := by omega
  have htl : (⟨(Lib.trimS name.data.toList alSet).toArray⟩ : ByteArray).toList = [] := by rw [Lib.toList_data]; exact ht
  have HT := Lib.hid ht; have HTL := Lib.hid htl; have HD := Lib.hid h; have HOF := Lib.hid hoff; have H0 := Lib.hid h0; have H1 := Lib.hid h1
  clear hn hz ht htl h hoff h0 h1
  go_enter_defers Tryz.func9, Tryz.ntmps9
  go_wp2_with fail
  have HE0 := Lib.hid (OpnW.ext 0 w); have HP := Lib.hid (OpnW.p 0 w); have HQ := Lib.hid (OpnW.q 0 w)
  unfold OpnW at *
  generalize (w.alloc (.cells #[.pointer none] 25)).alloc (.cells #[.int .i64 0] 26) = W0 at *
  refine (trim4_c name W0 (by omega)).mono ?_
  rintro e w1 ⟨rfl, hE⟩
  have HP1 := Lib.hid (HP.out.ext hE); have HQ1 := Lib.hid (HQ.out.ext hE); have HE1 := Lib.hid (HE0.out.trans hE)
  rw [HT.out]
  clear hE HP HQ HE0
  have htl : (⟨([] : List UInt8).toArray⟩ : ByteArray).toList = [] := by rw [Lib.toList_data]
  go_wp2_with fail
  refine (down_c d n M O F S w1 (HD.out.ext HE1.out)).mono ?_
  rintro e w2 ⟨rfl, rfl⟩
  rw [HOF.out]
  have p0 : ∀ o, (w2.alloc o).cell? ⟨w.heap.size, 0, none⟩ = some (.pointer none) := fun o => (HP1.out.alloc o).cell 0 rfl
  have pf : ∀ o, (w2.alloc o).frozen? ⟨w.heap.size, 0, none⟩ = false := fun o => (HP1.out.alloc o).free 0
  go_upto_region 7 with fail
  obtain ⟨w3, hw3⟩ : ∃ w3, w3 = (w2.alloc (.cells #[dptr d, .string name, .int .u64 0, .slice none 0 0, .slice none 0 0, .int .i64 0, .bool false] 64)).setCell ⟨w.heap.size, 0, none⟩ (lptr w2.heap.size) := ⟨_, rfl⟩
  have hpl : w.heap.size + 1 < w2.heap.size := HQ1.out.lt
  have hE3 : Ext w w3 := by
    rw [hw3]
    exact ((Chg.ext (HE1.out.trans (Ext.alloc _ _)) : Chg [w.heap.size] w _).setNew _ 0 _ (.inl (by simp))).toExt (fun t ht => by simp at ht; omega)
  have hB3 : LogB w3 w2.heap.size d name 0 (.slice none 0 0) (.slice none 0 0) 0 false := by
    rw [hw3]; exact (Blk.new w2 _ _).other _ _ (by simp; omega)
  have hP3 : Blk w3 w.heap.size #[lptr w2.heap.size] 25 := by
    rw [hw3]; have := (HP1.out.alloc (.cells #[dptr d, .string name, .int .u64 0, .slice none 0 0, .slice none 0 0, .int .i64 0, .bool false] 64)).set 0 (lptr w2.heap.size); simpa using this
  have hQ3 : Blk w3 (w.heap.size + 1) #[.int .i64 0] 26 := by
    rw [hw3]; exact (HQ1.out.alloc _).other _ _ (by simp)
  rw [← hw3]
  obtain ⟨l, hl⟩ : ∃ l, l = w2.heap.size := ⟨_, rfl⟩
  rw [← hl] at hB3 hP3 hpl ⊢
  have hpl2 : w.heap.size ≤ l := by omega
  have HD3 := Lib.hid (HD.out.ext hE3)
  have p0 : w3.cell? ⟨w.heap.size, 0, none⟩ = some (lptr l) := hP3.cell 0 rfl
  have HE3 := Lib.hid hE3; have HB3 := Lib.hid hB3; have HP3 := Lib.hid hP3; have HQ3 := Lib.hid hQ3
  clear hw3 hE3 hB3 hP3 hQ3 pf HD HP1 HQ1 HE1 hl htl hmf he hi HT HTL
  go_wp2_with fail
  refine (whead_c l d name _ _ _ _ _ w3 HB3.out h4).mono ?_
  rintro e w4 ⟨rfl, rfl⟩
  go_wp2_with fail
  refine (read_c d n M O F S (headN name) w4 HD3.out hM (by rw [headN_size]; unfold maxLen; omega)).mono ?_
  rintro e w5 ⟨v, rfl, -, -, hE5⟩
  rw [readS_empty _ HOF.out H0.out]
  have p5 := hE5.cell p0
  have HB5 := Lib.hid (Blk.ext (show Blk _ _ _ _ from HB3.out) hE5); have HE5 := Lib.hid (HE3.out.trans hE5); have HP5 := Lib.hid (HP3.out.ext hE5); have HQ5 := Lib.hid (HQ3.out.ext hE5); have HD5 := Lib.hid (HD3.out.ext hE5)
  clear hE5 p0 HB3 HE3 HP3 HQ3 HD3
  go_wp2_with fail
  refine (wgather_nil l d n M O F S name _ _ _ _ _ w5 HB5.out HD5.out hn9 H0.out H1.out).mono ?_
  rintro e w6 ⟨rfl, hE6⟩
  have p6 := hE6.cell p5
  have HB6 := Lib.hid (Blk.ext (show Blk _ _ _ _ from HB5.out) hE6); have HE6 := Lib.hid (HE5.out.trans hE6); have HP6 := Lib.hid (HP5.out.ext hE6); have HQ6 := Lib.hid (HQ5.out.ext hE6)
  have f6 := HP6.out.free 0
  have q6 := HQ6.out.cell 0 rfl
  have qf6 := HQ6.out.free 0
  clear hE6 p5 HB5 HE5 HP5 HQ5 HD5
  go_wp2_with fail
  refine leaves_cons (f := 32) (args := #[ptr w.heap.size, ptr (w.heap.size + 1)]) (by simp) (by simp [go_sem]) ?_
  obtain ⟨w7, hw7⟩ : ∃ w7, w7 = (w6.setCell ⟨w.heap.size, 0, none⟩ (lptr l)).setCell ⟨w.heap.size + 1, 0, none⟩ (.int .i64 0) := ⟨_, rfl⟩
  have hE7 : Ext w w7 := by
    rw [hw7]
    exact (((Chg.ext HE6.out : Chg [w.heap.size, w.heap.size + 1] w w6).setNew _ 0 _ (.inl (by simp))).setNew _ 0 _ (.inl (by simp))).toExt (fun t ht => by simp at ht; omega)
  have hB7 : LogB w7 l d name 0 (.slice none 0 0) (.slice none 0 0) 0 false := by
    rw [hw7]; exact (HB6.out.other _ _ (by simp; omega)).other _ _ (by simp; omega)
  have hP7 : w7.cell? ⟨w.heap.size, 0, none⟩ = some (lptr l) := by
    rw [hw7]; exact ((HP6.out.set 0 (lptr l)).other _ _ (by simp)).cell 0 (by simp)
  have hQ7 : w7.cell? ⟨w.heap.size + 1, 0, none⟩ = some (.int .i64 0) := by
    rw [hw7]; exact ((HQ6.out.other _ _ (by simp)).set 0 (.int .i64 0)).cell 0 (by simp)
  rw [← hw7]
  refine (widle_Open w.heap.size (w.heap.size + 1) w7 _ hP7 hQ7).mono ?_
  rintro en u w8 ⟨rfl, rfl, rfl⟩
  have p8 : w7.drew.cell? ⟨w.heap.size, 0, none⟩ = some (lptr l) := hP7
  have q8 : w7.drew.cell? ⟨w.heap.size + 1, 0, none⟩ = some (.int .i64 0) := hQ7
  simp [Leaves, settle, results, Tryz.results9, go_sem, p8, q8]
  exact ⟨l, rfl, Blk.drew hB7, hpl2, hE7.trans (Ext.drew _)⟩
end Go.Proofs.YtafjjladnghjbaaGreatDoor
