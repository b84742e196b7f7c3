/- What a draw of two runs of numbers and a unit is: two rows of numbers in the call's own memory, at most 61 and 6 of them, and any unit. No condition but the draw's own. -/
import Derived.Test.YtldcciipicnooaaDoorDrawR
import Derived.Laws.AppendOwn
import Derived.OwnWalk
import Derived.Deep.Onto
import Derived.Deep.AppendLies
namespace Go.Proofs.YtldcciipicnooaaDoor
open Go.RowKit
set_option maxRecDepth 100000
set_option maxHeartbeats 4000000
set_option linter.unusedVariables false
set_option linter.unusedSimpArgs false

/-- A number of 64 bits, as a value. -/
abbrev cxv (z : Nat × Nat) : Value := .complex .f32 z.1 z.2
/-- A slice value of n numbers that begins block g. -/
def CRow (w : World) (v : Value) (n g : Nat) : Prop := ∃ (cap : Nat) (l : List (Nat × Nat)), v = .slice (some ⟨g, 0, none⟩) n cap ∧ l.length = n ∧ w.ownsRow g 68 1 v n (l.map cxv)
theorem A_infoC : (Tryd.prog.info? 68).map (fun i => (i.zero, i.size, i.bytes)) = some (some (.complex .f32 0 0), 1, 8) := by kernel_rfl

section
variable {w w' : World} {v : Value} {n g c : Nat}
theorem CRow.lt (h : CRow w v n g) : g < w.heap.size := by
  obtain ⟨cap, l, rfl, _, hown⟩ := h
  exact (hown.lt g rfl).2
theorem CRow.of_block (h : CRow w v n g) (he : w'.heap[g]? = w.heap[g]?) : CRow w' v n g := by
  obtain ⟨cap, l, rfl, hl, hown⟩ := h
  refine ⟨cap, l, rfl, hl, hown.1, ?_⟩
  rcases hown.2 with ⟨h1, _⟩ | ⟨g', cap', cur, h1, h2, h3, h4⟩
  · simp at h1
  · have hg : g = g' := by simpa using (Value.slice.inj h1).1
    subst hg
    exact .inr ⟨g, cap', cur, h1, h2, he.trans h3, h4⟩
theorem CRow.kept (h : CRow w v n g) (hk : Kept c w w') (hg : g ≠ c) : CRow w' v n g := h.of_block (hk.block g h.lt hg)
theorem CRow.below (h : CRow w v n g) (hb : Below w.heap.size w w') : CRow w' v n g := h.of_block (hb.block g h.lt)
theorem CRow.alloc (h : CRow w v n g) (o : Obj) : CRow (w.alloc o) v n g := h.of_block (Below.heap_alloc w o g h.lt)
theorem CRow.far (h : CRow w v n g) {p : Addr} (hp : g ≠ p.block) (u : Value) : CRow (w.setCell p u) v n g := h.of_block (Below.heap_setCell w p u g hp)
theorem CRow.grown {row : Option Nat} (h : CRow w v n g) (hg : w.grownBy w' row) (hne : some g ≠ row) : CRow w' v n g := h.of_block (hg.block g h.lt hne)
theorem CRow.store (h : CRow w v n g) (i : Nat) (z : Nat × Nat) : CRow (w.setCell ⟨g, i, none⟩ (cxv z)) v n g := by
  obtain ⟨cap, l, rfl, hl, hown⟩ := h
  refine ⟨cap, l.set i z, rfl, by simpa using hl, ?_⟩
  have := (hown.stored i (cxv z)).1
  rwa [List.map_set]
theorem CRow.app {g' cap : Nat} {l : List (Nat × Nat)} {z : Nat × Nat} (hl : l.length = n) (hown : w'.ownsRow g 68 1 (.slice (some ⟨g', 0, none⟩) (n + 1) cap) (n + 1) (l.map cxv ++ [cxv z])) : CRow w' (.slice (some ⟨g', 0, none⟩) (n + 1) cap) (n + 1) g' := by
  refine ⟨cap, l ++ [z], rfl, by simp [hl], ?_⟩
  refine ⟨by simp [hl], ?_⟩
  rcases hown.2 with ⟨h1, _⟩ | ⟨g2, cap', cur, h1, h2, h3, h4, h5, h6, h7⟩
  · simp at h1
  · have hg : g' = g2 := by simpa using (Value.slice.inj h1).1
    subst hg
    exact .inr ⟨g', cap', cur, h1, Nat.le_refl _, h3, h4, h5, h6, by rw [h7]; simp⟩
end
theorem Kept.grown {c : Nat} {a b d : World} {row : Option Nat} (h : Kept c a b) (hg : b.grownBy d row) (hr : ∀ k, row = some k → a.heap.size ≤ k) : Kept c a d :=
  ⟨hg.os.trans h.os, hg.tape.trans h.tape, hg.output.trans h.output, Nat.le_trans h.size hg.size, fun k hk hc => (hg.block k (Nat.lt_of_lt_of_le hk h.size) (fun e => by have := hr k e.symm; omega)).trans (h.block k hk hc)⟩
theorem CurOk.low {c : Nat} {w w' : World} (h : CurOk c w) (hb : Below (c + 1) w w') : CurOk c w' := by
  obtain ⟨A, len, cap, i, x, h1, h2, h3⟩ := h
  exact ⟨A, len, cap, i, x, h1.below hb (by omega), h2, fun k hl => by
    obtain ⟨y, n, e1, e2, e4, e5⟩ := h3 k hl
    exact ⟨y, n, e1, e2, (hb.cell (p := y.add k) (by omega)).trans e4, e5⟩⟩
theorem CurOk.grown {c : Nat} {w w' : World} {row : Option Nat} (h : CurOk c w) (hg : w.grownBy w' row) (hr : ∀ k, row = some k → c < k) : CurOk c w' :=
  h.low ((Below.refl (c + 1) w).grown hg h.lt (fun k e => hr k e))

theorem l10Any_any (c : Nat) (w : World) (H : CurOk c w) :
    Calls Tryd.prog 42 #[.pointer (some ⟨c, 0, none⟩)] w fun e w' => ∃ s m x, e = .returned (unitB s m x) ∧ CurEnd c w w' := by
  have hc := H.lt
  go_enter Tryd.func42, Tryd.ntmps42
  go_wp2_with fail
  go_at_call 65
  refine (l10Unit_any c _ (H.below (by repeat (first | exact Below.refl _ _ | assumption | refine bl_drewN ?_ _ | refine bl_drew ?_ | refine bl_alloc ?_ _ | refine bl_set ?_ (by first | (simp; done) | (simp; omega) | omega | (simp [World.setCell]; done) | (simp [World.setCell]; omega)) _ | refine bl_call ?_ (by assumption))))).mono ?_
  rintro e w1 ⟨s, m, x, _, _, _, _, _, rfl, hc1, hk1⟩
  have R1 := Blk.kept (Blk.new w 38 #[.string ⟨#[]⟩, .int .i64 0, .int .i64 0]) hk1 (by omega)
  have K1 : Kept c w w1 := (Kept.of (bl_alloc (Below.refl _ _) _)).trans hk1
  have hz1 := R1.lt
  unfold unitB
  go_wp2_with fail
  have U1 := Blk.new w1 38 #[.string s, .int .i64 m, .int .i64 x]
  have hcA : CurOk c (w1.alloc (.cells #[.string s, .int .i64 m, .int .i64 x] 38)) := hc1.below (by repeat (first | exact Below.refl _ _ | assumption | refine bl_drewN ?_ _ | refine bl_drew ?_ | refine bl_alloc ?_ _ | refine bl_set ?_ (by first | (simp; done) | (simp; omega) | omega | (simp [World.setCell]; done) | (simp [World.setCell]; omega)) _ | refine bl_call ?_ (by assumption)))
  go_at_call 38
  refine (l01Below_i c _ 10 _ hcA (by decide) (by decide) (by decide)).mono ?_
  rintro e w2 ⟨k, rfl, hk, hc2, hk2⟩
  have R2 := Blk.kept (R1.alloc (.cells #[.string s, .int .i64 m, .int .i64 x] 38)) hk2 (by omega)
  have U2 := Blk.kept U1 hk2 (by omega)
  have K2 : Kept c w w2 := (kp_alloc K1 _).trans hk2
  have hz2 := U2.lt
  have hcase : k = 0 ∨ k = 1 ∨ k = 2 ∨ 3 ≤ k := by omega
  rcases hcase with rfl | rfl | rfl | hk3
  · go_wp2_with fail
    go_at_call 66
    refine (l01Sign_any c _ hc2).mono ?_
    rintro e w3 ⟨v, rfl, hc3, hk3⟩
    have R3 := Blk.kept R2 hk3 (by omega)
    have U3 := Blk.kept U2 hk3 (by omega)
    have K3 : Kept c w w3 := K2.trans hk3
    have u0 := U3.cell 0
    have u1 := U3.cell 1
    have u2 := U3.cell 2
    have f0 := U3.frozen 0
    have f1 := U3.frozen 1
    have f2 := U3.frozen 2
    have r0 := R3.cell 0
    have r1 := R3.cell 1
    have r2 := R3.cell 2
    have e0 := R3.frozen 0
    have e1 := R3.frozen 1
    have e2 := R3.frozen 2
    simp only [List.getElem?_toArray, List.getElem?_cons_zero, List.getElem?_cons_succ] at u0 u1 u2 r0 r1 r2
    have hz3 := U3.lt
    have R4 := R3.far (p := ⟨w1.heap.size, 0, none⟩) (by show w.heap.size ≠ w1.heap.size; omega) (.string v)
    go_wp2
    have q0 := ((R4.set_ 0 (.string v)).set_ 1 (.int .i64 m)).set_ 2 (.int .i64 x) |>.cell 0
    have q1 := ((R4.set_ 0 (.string v)).set_ 1 (.int .i64 m)).set_ 2 (.int .i64 x) |>.cell 1
    have q2 := ((R4.set_ 0 (.string v)).set_ 1 (.int .i64 m)).set_ 2 (.int .i64 x) |>.cell 2
    simp at q0 q1 q2
    refine bodyPost_ret (v := unitB v m x) (by simp (maxDischargeDepth := 6) [results, Tryd.results42, go_sem, unitB, q0, q1, q2]) rfl ⟨v, m, x, rfl, ?_, ?_⟩
    · exact (((hc3.far (by show c < w1.heap.size; omega) _).far (by simp; omega) _).far (by simp; omega) _).far (by simp; omega) _
    · exact kp_far (kp_far (kp_far (kp_far K3 (by show w.heap.size ≤ w1.heap.size; omega) _) (by simp) _) (by simp) _) (by simp) _
  · go_wp2_with (first | (go_at_call 37; (with_reducible refine (l01PickInt_any c _ 3 _ [0, -1, 16777216] _ (hc2.below (by repeat (first | exact Below.refl _ _ | assumption | refine bl_drewN ?_ _ | refine bl_drew ?_ | refine bl_alloc ?_ _ | refine bl_set ?_ (by first | (simp; done) | (simp; omega) | omega | (simp [World.setCell]; done) | (simp [World.setCell]; omega)) _ | refine bl_call ?_ (by assumption)))) (by with_unfolding_all rfl) (by decide) (by decide) (by decide) (Blk.new_at _ _ _ rfl) (by omega)).mono ?_); rintro e w3 ⟨v, _, rfl, hc3, hk3⟩; have R3 := Blk.kept (R2.alloc _) hk3 (by omega); have U3 := Blk.kept (U2.alloc _) hk3 (by omega); have K3 : Kept c w w3 := (kp_alloc K2 _).trans hk3; have u0 := U3.cell 0; have u1 := U3.cell 1; have u2 := U3.cell 2; have f0 := U3.frozen 0; have f1 := U3.frozen 1; have f2 := U3.frozen 2; have r0 := R3.cell 0; have r1 := R3.cell 1; have r2 := R3.cell 2; have e0 := R3.frozen 0; have e1 := R3.frozen 1; have e2 := R3.frozen 2; simp only [List.getElem?_toArray, List.getElem?_cons_zero, List.getElem?_cons_succ] at u0 u1 u2 r0 r1 r2; have hz3 := U3.lt))
    have R4 := R3.far (p := ⟨w1.heap.size, 1, none⟩) (by show w.heap.size ≠ w1.heap.size; omega) (.int .i64 v)
    have q0 := ((R4.set_ 0 (.string s)).set_ 1 (.int .i64 v)).set_ 2 (.int .i64 x) |>.cell 0
    have q1 := ((R4.set_ 0 (.string s)).set_ 1 (.int .i64 v)).set_ 2 (.int .i64 x) |>.cell 1
    have q2 := ((R4.set_ 0 (.string s)).set_ 1 (.int .i64 v)).set_ 2 (.int .i64 x) |>.cell 2
    simp at q0 q1 q2
    refine bodyPost_ret (v := unitB s v x) (by simp (maxDischargeDepth := 6) [results, Tryd.results42, go_sem, unitB, q0, q1, q2]) rfl ⟨s, v, x, rfl, ?_, ?_⟩
    · exact (((hc3.far (by show c < w1.heap.size; omega) _).far (by simp; omega) _).far (by simp; omega) _).far (by simp; omega) _
    · exact kp_far (kp_far (kp_far (kp_far K3 (by show w.heap.size ≤ w1.heap.size; omega) _) (by simp) _) (by simp) _) (by simp) _
  · go_wp2_with (first | (go_at_call 37; (with_reducible refine (l01PickInt_any c _ 3 _ [128, -150, 127] _ (hc2.below (by repeat (first | exact Below.refl _ _ | assumption | refine bl_drewN ?_ _ | refine bl_drew ?_ | refine bl_alloc ?_ _ | refine bl_set ?_ (by first | (simp; done) | (simp; omega) | omega | (simp [World.setCell]; done) | (simp [World.setCell]; omega)) _ | refine bl_call ?_ (by assumption)))) (by with_unfolding_all rfl) (by decide) (by decide) (by decide) (Blk.new_at _ _ _ rfl) (by omega)).mono ?_); rintro e w3 ⟨v, _, rfl, hc3, hk3⟩; have R3 := Blk.kept (R2.alloc _) hk3 (by omega); have U3 := Blk.kept (U2.alloc _) hk3 (by omega); have K3 : Kept c w w3 := (kp_alloc K2 _).trans hk3; have u0 := U3.cell 0; have u1 := U3.cell 1; have u2 := U3.cell 2; have f0 := U3.frozen 0; have f1 := U3.frozen 1; have f2 := U3.frozen 2; have r0 := R3.cell 0; have r1 := R3.cell 1; have r2 := R3.cell 2; have e0 := R3.frozen 0; have e1 := R3.frozen 1; have e2 := R3.frozen 2; simp only [List.getElem?_toArray, List.getElem?_cons_zero, List.getElem?_cons_succ] at u0 u1 u2 r0 r1 r2; have hz3 := U3.lt))
    have R4 := R3.far (p := ⟨w1.heap.size, 2, none⟩) (by show w.heap.size ≠ w1.heap.size; omega) (.int .i64 v)
    have q0 := ((R4.set_ 0 (.string s)).set_ 1 (.int .i64 m)).set_ 2 (.int .i64 v) |>.cell 0
    have q1 := ((R4.set_ 0 (.string s)).set_ 1 (.int .i64 m)).set_ 2 (.int .i64 v) |>.cell 1
    have q2 := ((R4.set_ 0 (.string s)).set_ 1 (.int .i64 m)).set_ 2 (.int .i64 v) |>.cell 2
    simp at q0 q1 q2
    refine bodyPost_ret (v := unitB s m v) (by simp (maxDischargeDepth := 6) [results, Tryd.results42, go_sem, unitB, q0, q1, q2]) rfl ⟨s, m, v, rfl, ?_, ?_⟩
    · exact (((hc3.far (by show c < w1.heap.size; omega) _).far (by simp; omega) _).far (by simp; omega) _).far (by simp; omega) _
    · exact kp_far (kp_far (kp_far (kp_far K3 (by show w.heap.size ≤ w1.heap.size; omega) _) (by simp) _) (by simp) _) (by simp) _
  · have c0 : ((k : Int) == 0) = false := beq_eq_false_iff_ne.2 (by omega)
    have c1 : ((k : Int) == 1) = false := beq_eq_false_iff_ne.2 (by omega)
    have c2 : ((k : Int) == 2) = false := beq_eq_false_iff_ne.2 (by omega)
    have u0 := U2.cell 0
    have u1 := U2.cell 1
    have u2 := U2.cell 2
    have f0 := U2.frozen 0
    have f1 := U2.frozen 1
    have f2 := U2.frozen 2
    have r0 := R2.cell 0
    have r1 := R2.cell 1
    have r2 := R2.cell 2
    have e0 := R2.frozen 0
    have e1 := R2.frozen 1
    have e2 := R2.frozen 2
    simp only [List.getElem?_toArray, List.getElem?_cons_zero, List.getElem?_cons_succ] at u0 u1 u2 r0 r1 r2
    go_wp2
    have q0 := ((R2.set_ 0 (.string s)).set_ 1 (.int .i64 m)).set_ 2 (.int .i64 x) |>.cell 0
    have q1 := ((R2.set_ 0 (.string s)).set_ 1 (.int .i64 m)).set_ 2 (.int .i64 x) |>.cell 1
    have q2 := ((R2.set_ 0 (.string s)).set_ 1 (.int .i64 m)).set_ 2 (.int .i64 x) |>.cell 2
    simp at q0 q1 q2
    refine bodyPost_ret (v := unitB s m x) (by simp (maxDischargeDepth := 6) [results, Tryd.results42, go_sem, unitB, q0, q1, q2]) rfl ⟨s, m, x, rfl, ?_, ?_⟩
    · exact ((hc2.far (by simp; omega) _).far (by simp; omega) _).far (by simp; omega) _
    · exact kp_far (kp_far (kp_far K2 (by simp) _) (by simp) _) (by simp) _
end Go.Proofs.YtldcciipicnooaaDoor
