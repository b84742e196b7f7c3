/-
  What is proved here: what spec.ParseRecord returns: the record of which the text is the text, or none. No condition.
-/
import Derived.Test.YtldcciipicnooaaDoorRs
import Derived.Deep.WholeRow
import Derived.Laws.Rows
namespace Go.Proofs.YtldcciipicnooaaDoor
open Go.RowKit
open Go.Lib (itoa decDigits nDigits nDigits_le20 itoa_length_le)
set_option maxRecDepth 100000
set_option maxHeartbeats 4000000
set_option linter.unusedVariables false
set_option linter.unusedSimpArgs false

/-- What a call of ParseRecord ends with. -/
def RpEnd (l : List UInt8) (w : World) (e : Ending) (w' : World) : Prop :=
  ∃ a b c d ok, e = .returned (.tuple #[.agg #[.int .i64 a, .int .i64 b, .int .i64 c, .int .i64 d], .bool ok]) ∧ RpR l a b c d ok ∧ Below w.heap.size w w'

theorem rp_bad {l f0 f1 f2 f3 : List UInt8} {n0 n1 n2 n3 : Int} {o0 o1 o2 o3 : Bool} (hc : ∀ a b c d, recOk a b c d → recTx a b c d = l → [f0, f1, f2, f3] = [itoa a, itoa b, itoa c, itoa d])
    (h0 : NinR f0 n0 o0) (h1 : NinR f1 n1 o1) (h2 : NinR f2 n2 o2) (h3 : NinR f3 n3 o3) (hbad : o0 = false ∨ o1 = false ∨ o2 = false ∨ o3 = false ∨ recTx n0 n1 n2 n3 ≠ l) : RpR l 0 0 0 0 false := by
  refine rp_none l fun a b c d hr e => ?_
  have h := hc a b c d hr e
  simp only [List.cons.injEq, and_true] at h
  obtain ⟨q1, q2, q3, q4⟩ := rec_range hr
  obtain ⟨e0, t0⟩ := h0.2 a ⟨by omega, by omega⟩ h.1.symm
  obtain ⟨e1, t1⟩ := h1.2 b ⟨by omega, by omega⟩ h.2.1.symm
  obtain ⟨e2, t2⟩ := h2.2 c ⟨by omega, by omega⟩ h.2.2.1.symm
  obtain ⟨e3, t3⟩ := h3.2 d ⟨by omega, by omega⟩ h.2.2.2.symm
  subst e0; subst e1; subst e2; subst e3
  rcases hbad with g | g | g | g | g
  · rw [g] at t0; cases t0
  · rw [g] at t1; cases t1
  · rw [g] at t2; cases t2
  · rw [g] at t3; cases t3
  · exact g e

/-- The result's block: a record of zeros. -/
abbrev zeroR (w : World) : World := w.alloc (.cells #[.int .i64 0, .int .i64 0, .int .i64 0, .int .i64 0] 25)
theorem zero_keep {w W : World} (h : Below (zeroR w).heap.size (zeroR w) W) :
    (W.cell? ⟨w.heap.size, 0, none⟩ = some (.int .i64 0) ∧ W.cell? ⟨w.heap.size, 1, none⟩ = some (.int .i64 0) ∧ W.cell? ⟨w.heap.size, 2, none⟩ = some (.int .i64 0) ∧ W.cell? ⟨w.heap.size, 3, none⟩ = some (.int .i64 0)) ∧
    (W.frozen? ⟨w.heap.size, 0, none⟩ = false ∧ W.frozen? ⟨w.heap.size, 1, none⟩ = false ∧ W.frozen? ⟨w.heap.size, 2, none⟩ = false ∧ W.frozen? ⟨w.heap.size, 3, none⟩ = false) ∧ w.heap.size < W.heap.size := by
  refine ⟨⟨?_, ?_, ?_, ?_⟩, ⟨?_, ?_, ?_, ?_⟩, by have := h.size; simp [zeroR] at this; omega⟩
  all_goals first | (rw [h.cell (by simp [zeroR])]; simp [zeroR]) | (rw [h.frozen (by simp [zeroR])]; simp [zeroR])

theorem set4 {w W : World} (h : Below w.heap.size w W) (a b c d : Value) : Below w.heap.size w ((((W.setCell ⟨w.heap.size, 0, none⟩ a).setCell ⟨w.heap.size, 1, none⟩ b).setCell ⟨w.heap.size, 2, none⟩ c).setCell ⟨w.heap.size, 3, none⟩ d) :=
  (((h.setCell (Nat.le_refl _) _).setCell (Nat.le_refl _) _).setCell (Nat.le_refl _) _).setCell (Nat.le_refl _) _
theorem from_zero {w W : World} (h : Below (zeroR w).heap.size (zeroR w) W) : Below w.heap.size w W := (Below.alloc (Below.refl _ _) (Nat.le_refl _) _).trans (h.mono (by simp [zeroR]))

theorem zero_blk {w W : World} (h : Below (zeroR w).heap.size (zeroR w) W) : W.heap[w.heap.size]? = some (.cells #[.int .i64 0, .int .i64 0, .int .i64 0, .int .i64 0] 25 (0, 0)) :=
  (h.block w.heap.size (by simp [zeroR])).trans (heap_alloc_last w _)
theorem blk_set {W : World} {g : Nat} {t : TypeId} {cs : Array Value} (h : W.heap[g]? = some (.cells cs t (0, 0))) (i : Nat) (u : Value) : (W.setCell ⟨g, i, none⟩ u).heap[g]? = some (.cells (cs.setIfInBounds i u) t (0, 0)) := by
  simp [World.setCell, Array.getElem?_modify, h]
theorem cells_after {w W : World} (h : Below (zeroR w).heap.size (zeroR w) W) (a b c d : Value) (o : Obj) :
    ((((((W.setCell ⟨w.heap.size, 0, none⟩ a).setCell ⟨w.heap.size, 1, none⟩ b).setCell ⟨w.heap.size, 2, none⟩ c).setCell ⟨w.heap.size, 3, none⟩ d).alloc o).cell? ⟨w.heap.size, 0, none⟩ = some a ∧
    (((((W.setCell ⟨w.heap.size, 0, none⟩ a).setCell ⟨w.heap.size, 1, none⟩ b).setCell ⟨w.heap.size, 2, none⟩ c).setCell ⟨w.heap.size, 3, none⟩ d).alloc o).cell? ⟨w.heap.size, 1, none⟩ = some b ∧
    (((((W.setCell ⟨w.heap.size, 0, none⟩ a).setCell ⟨w.heap.size, 1, none⟩ b).setCell ⟨w.heap.size, 2, none⟩ c).setCell ⟨w.heap.size, 3, none⟩ d).alloc o).cell? ⟨w.heap.size, 2, none⟩ = some c ∧
    (((((W.setCell ⟨w.heap.size, 0, none⟩ a).setCell ⟨w.heap.size, 1, none⟩ b).setCell ⟨w.heap.size, 2, none⟩ c).setCell ⟨w.heap.size, 3, none⟩ d).alloc o).cell? ⟨w.heap.size, 3, none⟩ = some d) := by
  have hb := blk_set (blk_set (blk_set (blk_set (zero_blk h) 0 a) 1 b) 2 c) 3 d
  have hlt : w.heap.size < ((((W.setCell ⟨w.heap.size, 0, none⟩ a).setCell ⟨w.heap.size, 1, none⟩ b).setCell ⟨w.heap.size, 2, none⟩ c).setCell ⟨w.heap.size, 3, none⟩ d).heap.size := (Array.getElem?_eq_some_iff.1 hb).1
  generalize ((((W.setCell ⟨w.heap.size, 0, none⟩ a).setCell ⟨w.heap.size, 1, none⟩ b).setCell ⟨w.heap.size, 2, none⟩ c).setCell ⟨w.heap.size, 3, none⟩ d) = X at hb hlt ⊢
  have hc := (Below.heap_alloc X o w.heap.size hlt).trans hb
  refine ⟨?_, ?_, ?_, ?_⟩ <;> (rw [cell_of_row _ _ _ _ _ _ hc]; rfl)
theorem recTx_length (a b c d : Int) : (recTx a b c d).length ≤ 600 := by
  by_cases h : recOk a b c d
  · exact rec_len h
  · unfold recTx; rw [if_neg h]; simp

theorem spec_ParseRecord (l : List UInt8) (hl : l.length ≤ 9223372036854775807) (w : World) :
    Calls Tryd.prog 23 #[tx l] w (RpEnd l w) := by
  go_enter Tryd.func23, Tryd.ntmps23
  go_wp2_with fail
  go_at_call 50
  refine (spec_SplitFields l hl _).mono ?_
  rintro e w1 ⟨v, fs, ok, rfl, hown, hfl, hfn, hc, hs, hb1⟩
  have HC := Lib.hid hc
  have HS := Lib.hid hs
  have HB1 := Lib.hid hb1
  have HW1 := Lib.hid (from_zero hb1)
  have HOWN := Lib.hid hown
  have HFL := Lib.hid hfl
  obtain ⟨⟨r0, r1, r2, r3⟩, ⟨g0, g1, g2, g3⟩, hz⟩ := zero_keep hb1
  have hform : ∃ a c, v = .slice a fs.length c := by
    rcases hown.2 with ⟨h1, h2⟩ | ⟨g, cap, cur, h1, _⟩
    · exact ⟨none, 0, by rw [h1, h2]⟩
    · exact ⟨_, cap, h1⟩
  clear hc hs hb1 hown hfl
  obtain ⟨ga, gc, rfl⟩ := hform
  cases ok
  · have HE : Hid (RpR l 0 0 0 0 false) := Lib.hid (rp_none l fun a b c d h e => by have := (HC.out a b c d h e).2; cases this)
    go_wp2
    refine bodyPost_ret (v := .tuple #[.agg #[.int .i64 0, .int .i64 0, .int .i64 0, .int .i64 0], .bool false]) (by simp (maxDischargeDepth := 6) [results, Tryd.results23, go_sem, r0, r1, r2, r3]) rfl ⟨0, 0, 0, 0, false, rfl, HE.out, set4 HW1.out _ _ _ _⟩
  by_cases h4 : fs.length = 4
  · clear r0 r1 r2 r3 g0 g1 g2 g3
    have d4 : ((fs.length : Int) != 4) = false := bne_eq_false_iff_eq.2 (by omega)
    obtain ⟨f0, f1, f2, f3, rfl⟩ : ∃ f0 f1 f2 f3, fs = [f0, f1, f2, f3] := by
      match fs, h4 with
      | [a, b, c, d], _ => exact ⟨a, b, c, d, rfl⟩
    have hb0 := HFL.out f0 (by simp)
    have hb1 := HFL.out f1 (by simp)
    have hb2 := HFL.out f2 (by simp)
    have hb3 := HFL.out f3 (by simp)
    obtain ⟨g, rfl, hg⟩ : ∃ g, ga = some ⟨g, 0, none⟩ ∧ g < w1.heap.size := by
      rcases HOWN.out.2 with ⟨_, h2⟩ | ⟨g, cap, cur, h1, _, h3, _⟩
      · simp at h2
      · obtain ⟨rfl, _⟩ := Value.slice.inj h1
        exact ⟨g, rfl, (Array.getElem?_eq_some_iff.1 h3).1⟩
    have x0 : w1.cell? ⟨g, 0, none⟩ = some (tx f0) := (HOWN.out.cellAt 0 (by simp)).trans rfl
    have X1 : Hid (w1.cell? ⟨g, 1, none⟩ = some (tx f1)) := Lib.hid ((HOWN.out.cellAt 1 (by simp)).trans rfl)
    have X2 : Hid (w1.cell? ⟨g, 2, none⟩ = some (tx f2)) := Lib.hid ((HOWN.out.cellAt 2 (by simp)).trans rfl)
    have X3 : Hid (w1.cell? ⟨g, 3, none⟩ = some (tx f3)) := Lib.hid ((HOWN.out.cellAt 3 (by simp)).trans rfl)
    clear h4
    go_wp2_with fail
    go_at_call 51
    refine (spec_l09Int f0 (by omega) _).mono ?_
    rintro e w2 ⟨n0, o0, rfl, hn0, hbx⟩
    have hr0 := hn0.1
    have HN0 := Lib.hid hn0
    have HQ0 := Lib.hid (hbx)
    clear hn0 hbx
    have x1 : w2.cell? ⟨g, 1, none⟩ = some (tx f1) := (HQ0.out.cell hg).trans X1.out
    go_wp2_with fail
    go_at_call 51
    refine (spec_l09Int f1 (by omega) _).mono ?_
    rintro e w3 ⟨n1, o1, rfl, hn1, hbx⟩
    have hr1 := hn1.1
    have HN1 := Lib.hid hn1
    have HQ1 := Lib.hid (on_call HQ0.out hbx)
    clear hn1 hbx
    have x2 : w3.cell? ⟨g, 2, none⟩ = some (tx f2) := (HQ1.out.cell hg).trans X2.out
    go_wp2_with fail
    go_at_call 51
    refine (spec_l09Int f2 (by omega) _).mono ?_
    rintro e w4 ⟨n2, o2, rfl, hn2, hbx⟩
    have hr2 := hn2.1
    have HN2 := Lib.hid hn2
    have HQ2 := Lib.hid (on_call HQ1.out hbx)
    clear hn2 hbx
    have x3 : w4.cell? ⟨g, 3, none⟩ = some (tx f3) := (HQ2.out.cell hg).trans X3.out
    go_wp2_with fail
    go_at_call 51
    refine (spec_l09Int f3 (by omega) _).mono ?_
    rintro e w5 ⟨n3, o3, rfl, hn3, hbx⟩
    have hr3 := hn3.1
    have HN3 := Lib.hid hn3
    have HQ3 := Lib.hid (on_call HQ2.out hbx)
    clear hn3 hbx
    have HZ5 := Lib.hid (on_call HB1.out HQ3.out)
    have HW5 := Lib.hid (from_zero HZ5.out)
    have HC4 : Hid (∀ a b c d, recOk a b c d → recTx a b c d = l → [f0, f1, f2, f3] = [itoa a, itoa b, itoa c, itoa d]) := Lib.hid (fun a b c d h e => (HC.out a b c d h e).1)
    obtain ⟨⟨r0, r1, r2, r3⟩, ⟨g0, g1, g2, g3⟩, hz5⟩ := zero_keep HZ5.out
    cases o0
    · have HE : Hid (RpR l 0 0 0 0 false) := Lib.hid (rp_bad HC4.out HN0.out HN1.out HN2.out HN3.out (Or.inl rfl))
      go_wp2
      obtain ⟨y0, y1, y2, y3⟩ := cells_after HZ5.out (.int .i64 0) (.int .i64 0) (.int .i64 0) (.int .i64 0) (.cells #[.int .i64 n0, .int .i64 n1, .int .i64 n2, .int .i64 n3] 25)
      refine bodyPost_ret (v := .tuple #[.agg #[.int .i64 0, .int .i64 0, .int .i64 0, .int .i64 0], .bool false]) (by simp (maxDischargeDepth := 6) [results, Tryd.results23, go_sem, y0, y1, y2, y3]) rfl ⟨0, 0, 0, 0, false, rfl, HE.out, Below.alloc (set4 HW5.out _ _ _ _) (set4 HW5.out _ _ _ _).size _⟩
    · clear d4
      cases o1
      · have HE : Hid (RpR l 0 0 0 0 false) := Lib.hid (rp_bad HC4.out HN0.out HN1.out HN2.out HN3.out (Or.inr <| Or.inl rfl))
        go_wp2
        obtain ⟨y0, y1, y2, y3⟩ := cells_after HZ5.out (.int .i64 0) (.int .i64 0) (.int .i64 0) (.int .i64 0) (.cells #[.int .i64 n0, .int .i64 n1, .int .i64 n2, .int .i64 n3] 25)
        refine bodyPost_ret (v := .tuple #[.agg #[.int .i64 0, .int .i64 0, .int .i64 0, .int .i64 0], .bool false]) (by simp (maxDischargeDepth := 6) [results, Tryd.results23, go_sem, y0, y1, y2, y3]) rfl ⟨0, 0, 0, 0, false, rfl, HE.out, Below.alloc (set4 HW5.out _ _ _ _) (set4 HW5.out _ _ _ _).size _⟩
      · skip
        cases o2
        · have HE : Hid (RpR l 0 0 0 0 false) := Lib.hid (rp_bad HC4.out HN0.out HN1.out HN2.out HN3.out (Or.inr <| Or.inr <| Or.inl rfl))
          go_wp2
          obtain ⟨y0, y1, y2, y3⟩ := cells_after HZ5.out (.int .i64 0) (.int .i64 0) (.int .i64 0) (.int .i64 0) (.cells #[.int .i64 n0, .int .i64 n1, .int .i64 n2, .int .i64 n3] 25)
          refine bodyPost_ret (v := .tuple #[.agg #[.int .i64 0, .int .i64 0, .int .i64 0, .int .i64 0], .bool false]) (by simp (maxDischargeDepth := 6) [results, Tryd.results23, go_sem, y0, y1, y2, y3]) rfl ⟨0, 0, 0, 0, false, rfl, HE.out, Below.alloc (set4 HW5.out _ _ _ _) (set4 HW5.out _ _ _ _).size _⟩
        · skip
          cases o3
          · have HE : Hid (RpR l 0 0 0 0 false) := Lib.hid (rp_bad HC4.out HN0.out HN1.out HN2.out HN3.out (Or.inr <| Or.inr <| Or.inr <| Or.inl rfl))
            go_wp2
            obtain ⟨y0, y1, y2, y3⟩ := cells_after HZ5.out (.int .i64 0) (.int .i64 0) (.int .i64 0) (.int .i64 0) (.cells #[.int .i64 n0, .int .i64 n1, .int .i64 n2, .int .i64 n3] 25)
            refine bodyPost_ret (v := .tuple #[.agg #[.int .i64 0, .int .i64 0, .int .i64 0, .int .i64 0], .bool false]) (by simp (maxDischargeDepth := 6) [results, Tryd.results23, go_sem, y0, y1, y2, y3]) rfl ⟨0, 0, 0, 0, false, rfl, HE.out, Below.alloc (set4 HW5.out _ _ _ _) (set4 HW5.out _ _ _ _).size _⟩
          · skip
            have hlen := recTx_length n0 n1 n2 n3
            by_cases hsame : recTx n0 n1 n2 n3 = l
            · have HE : Hid (RpR l n0 n1 n2 n3 true) := Lib.hid ⟨fun _ => ⟨recTx_ok hsame (fun e => by
                have := HS.out (by first | rfl | trivial)
                rw [e] at this
                simp [spOut, spSt] at this), hsame⟩, by simp⟩
              have c9 : (recTx n0 n1 n2 n3 == l) = true := beq_iff_eq.2 hsame
              clear hsame
              go_wp2_with (first | (go_at_call 9; (with_reducible refine (spec_FormatRecord n0 n1 n2 n3 (by omega) (by omega) (by omega) (by omega) (by omega) (by omega) (by omega) (by omega) _).mono ?_); rintro e w6 ⟨rfl, hbx⟩; obtain ⟨_, k0, k1, k2, k3⟩ := keepR hbx; have HZ6 := Lib.hid (on_call (Below.alloc HZ5.out HZ5.out.size _) hbx); clear hbx r0 r1 r2 r3 g0 g1 g2 g3; obtain ⟨⟨r0, r1, r2, r3⟩, ⟨g0, g1, g2, g3⟩, hz6⟩ := zero_keep HZ6.out; have HW6 := Lib.hid (from_zero HZ6.out)))
              refine bodyPost_ret (v := .tuple #[.agg #[.int .i64 n0, .int .i64 n1, .int .i64 n2, .int .i64 n3], .bool true]) (by simp (maxDischargeDepth := 6) [results, Tryd.results23, go_sem, r0, r1, r2, r3]) rfl ⟨n0, n1, n2, n3, true, rfl, HE.out, set4 HW6.out _ _ _ _⟩
            · have HE : Hid (RpR l 0 0 0 0 false) := Lib.hid (rp_bad HC4.out HN0.out HN1.out HN2.out HN3.out (Or.inr <| Or.inr <| Or.inr <| Or.inr hsame))
              have c9 : (recTx n0 n1 n2 n3 == l) = false := beq_eq_false_iff_ne.2 hsame
              clear hsame
              go_wp2_with (first | (go_at_call 9; (with_reducible refine (spec_FormatRecord n0 n1 n2 n3 (by omega) (by omega) (by omega) (by omega) (by omega) (by omega) (by omega) (by omega) _).mono ?_); rintro e w6 ⟨rfl, hbx⟩; obtain ⟨_, k0, k1, k2, k3⟩ := keepR hbx; have HZ6 := Lib.hid (on_call (Below.alloc HZ5.out HZ5.out.size _) hbx); clear hbx r0 r1 r2 r3 g0 g1 g2 g3; obtain ⟨⟨r0, r1, r2, r3⟩, ⟨g0, g1, g2, g3⟩, hz6⟩ := zero_keep HZ6.out; have HW6 := Lib.hid (from_zero HZ6.out)))
              refine bodyPost_ret (v := .tuple #[.agg #[.int .i64 0, .int .i64 0, .int .i64 0, .int .i64 0], .bool false]) (by simp (maxDischargeDepth := 6) [results, Tryd.results23, go_sem, r0, r1, r2, r3]) rfl ⟨0, 0, 0, 0, false, rfl, HE.out, set4 HW6.out _ _ _ _⟩
  · have d4 : ((fs.length : Int) != 4) = true := bne_iff_ne.2 (by omega)
    have HE : Hid (RpR l 0 0 0 0 false) := Lib.hid (rp_none l fun a b c d h e => by rw [(HC.out a b c d h e).1] at h4; exact h4 rfl)
    go_wp2
    refine bodyPost_ret (v := .tuple #[.agg #[.int .i64 0, .int .i64 0, .int .i64 0, .int .i64 0], .bool false]) (by simp (maxDischargeDepth := 6) [results, Tryd.results23, go_sem, r0, r1, r2, r3]) rfl ⟨0, 0, 0, 0, false, rfl, HE.out, set4 HW1.out _ _ _ _⟩
end Go.Proofs.YtldcciipicnooaaDoor
