/-
  What is proved here: what impl.ParseRecord returns: the record of which the text is the text, or none. Conditions: the table of powers of ten is laid; the library's variable MaxLen holds an int; the text has fewer than 4294967281 bytes.
-/
import Derived.Test.YtldcciipicnooaaDoorRt
namespace Go.Proofs.YtldcciipicnooaaDoor
open Go.RowKit
open Go.Lib (itoa decDigits nDigits nDigits_le20 itoa_length_le)
set_option maxRecDepth 100000
set_option maxHeartbeats 4000000
set_option linter.unusedVariables false
set_option linter.unusedSimpArgs false

theorem ip_none {l : List UInt8} (h : (Lib.split l [32]).length ≠ 4) : RpR l 0 0 0 0 false :=
  rp_none l fun a b c d hr e => by
    have := rec_split hr
    rw [e] at this
    rw [this] at h
    exact h rfl
theorem ip_bad {l f : List UInt8} {fs : List (List UInt8)} {n : Int} (hs : Lib.split l [32] = fs) (hf : f ∈ fs) (h : PiR f n false) : RpR l 0 0 0 0 false :=
  rp_none l fun a b c d hr e => by
    have hx := rec_split hr
    rw [e, hs] at hx
    subst hx
    obtain ⟨q1, q2, q3, q4⟩ := rec_range hr
    have hno := (h.2 rfl).2
    simp only [List.mem_cons, List.not_mem_nil, or_false] at hf
    rcases hf with g | g | g | g
    · exact hno a ⟨by omega, by omega⟩ g.symm
    · exact hno b ⟨by omega, by omega⟩ g.symm
    · exact hno c ⟨by omega, by omega⟩ g.symm
    · exact hno d ⟨by omega, by omega⟩ g.symm
theorem ip_other {l f0 f1 f2 f3 : List UInt8} {n0 n1 n2 n3 : Int} (hs : Lib.split l [32] = [f0, f1, f2, f3]) (h0 : PiR f0 n0 true) (h1 : PiR f1 n1 true) (h2 : PiR f2 n2 true) (h3 : PiR f3 n3 true) (hne : recTx n0 n1 n2 n3 ≠ l) : RpR l 0 0 0 0 false :=
  rp_none l fun a b c d hr e => by
    have hx := rec_split hr
    rw [e, hs] at hx
    simp only [List.cons.injEq, and_true] at hx
    obtain ⟨q1, q2, q3, q4⟩ := rec_range hr
    obtain ⟨e0, _⟩ := h0.full a ⟨by omega, by omega⟩ hx.1.symm
    obtain ⟨e1, _⟩ := h1.full b ⟨by omega, by omega⟩ hx.2.1.symm
    obtain ⟨e2, _⟩ := h2.full c ⟨by omega, by omega⟩ hx.2.2.1.symm
    obtain ⟨e3, _⟩ := h3.full d ⟨by omega, by omega⟩ hx.2.2.2.symm
    subst e0; subst e1; subst e2; subst e3
    exact hne e
theorem ip_yes {l f0 f1 f2 f3 : List UInt8} {n0 n1 n2 n3 : Int} (hs : Lib.split l [32] = [f0, f1, f2, f3]) (h : recTx n0 n1 n2 n3 = l) : RpR l n0 n1 n2 n3 true :=
  ⟨fun _ => ⟨recTx_ok h (fun e => by
    have h1 : (Lib.split [] [32]).length = 1 := by decide
    rw [e] at hs
    rw [hs] at h1
    simp at h1), h⟩, by simp⟩

theorem split_cells (l : List UInt8) : (Lib.splitB ⟨#[32]⟩ 0 (Lib.countB ⟨l.toArray⟩ ⟨#[32]⟩) ⟨l.toArray⟩).map Value.string = txs (Lib.split l [32]) := by
  have h := Lib.splitB_data ⟨#[32]⟩ 0 (Lib.countB ⟨l.toArray⟩ ⟨#[32]⟩) ⟨l.toArray⟩
  have e : Lib.split l [32] = (Lib.splitB ⟨#[32]⟩ 0 (Lib.countB ⟨l.toArray⟩ ⟨#[32]⟩) ⟨l.toArray⟩).map (·.data.toList) := by rw [h]; rfl
  rw [e, txs, List.map_map]
  rfl
theorem split_len (l : List UInt8) : Lib.countB ⟨l.toArray⟩ ⟨#[32]⟩ + 1 = (Lib.split l [32]).length := by
  rw [← Lib.splitB_all ⟨#[32]⟩ (by decide) 0 _ ⟨l.toArray⟩ rfl]
  have := congrArg List.length (split_cells l)
  simpa [txs] using this

/-- The call's three blocks: the result, the words, the numbers. -/
def IpW (w : World) (f0 f1 f2 f3 : List UInt8) (n0 n1 n2 n3 : Int) (W : World) : Prop :=
  Below w.heap.size w W ∧ W.heap[w.heap.size]? = some (.cells #[.int .i64 0, .int .i64 0, .int .i64 0, .int .i64 0] 25 (0, 0)) ∧ W.heap[w.heap.size + 1]? = some (.cells #[tx f0, tx f1, tx f2, tx f3] 9 (0, 0)) ∧
    W.heap[w.heap.size + 2]? = some (.cells #[.int .i64 n0, .int .i64 n1, .int .i64 n2, .int .i64 n3] 75 (0, 0))
section
variable {w W W' : World} {f0 f1 f2 f3 : List UInt8} {n0 n1 n2 n3 : Int}
theorem IpW.lt (h : IpW w f0 f1 f2 f3 n0 n1 n2 n3 W) : w.heap.size + 2 < W.heap.size := (Array.getElem?_eq_some_iff.1 h.2.2.2).1
theorem IpW.step (h : IpW w f0 f1 f2 f3 n0 n1 n2 n3 W) (hb : Below W.heap.size W W') : IpW w f0 f1 f2 f3 n0 n1 n2 n3 W' := by
  have hl := h.lt
  exact ⟨on_call h.1 hb, (hb.block _ (by omega)).trans h.2.1, (hb.block _ (by omega)).trans h.2.2.1, (hb.block _ (by omega)).trans h.2.2.2⟩
theorem IpW.set (h : IpW w f0 f1 f2 f3 n0 n1 n2 n3 W) (i : Nat) (u : Value) {m0 m1 m2 m3 : Int} (e : (#[.int .i64 n0, .int .i64 n1, .int .i64 n2, .int .i64 n3] : Array Value).setIfInBounds i u = #[.int .i64 m0, .int .i64 m1, .int .i64 m2, .int .i64 m3]) :
    IpW w f0 f1 f2 f3 m0 m1 m2 m3 (W.setCell ⟨w.heap.size + 2, i, none⟩ u) :=
  ⟨h.1.setCell (by show w.heap.size ≤ w.heap.size + 2; omega) _, (Below.heap_setCell W _ u _ (by show w.heap.size ≠ w.heap.size + 2; omega)).trans h.2.1, (Below.heap_setCell W _ u _ (by show w.heap.size + 1 ≠ w.heap.size + 2; omega)).trans h.2.2.1, by rw [blk_set h.2.2.2, e]⟩
theorem IpW.word (h : IpW w f0 f1 f2 f3 n0 n1 n2 n3 W) (i : Nat) : W.cell? ⟨w.heap.size + 1, i, none⟩ = (#[tx f0, tx f1, tx f2, tx f3] : Array Value)[i]? := cell_of_row _ _ _ _ _ _ h.2.2.1
theorem IpW.num (h : IpW w f0 f1 f2 f3 n0 n1 n2 n3 W) (i : Nat) : W.cell? ⟨w.heap.size + 2, i, none⟩ = (#[.int .i64 n0, .int .i64 n1, .int .i64 n2, .int .i64 n3] : Array Value)[i]? := cell_of_row _ _ _ _ _ _ h.2.2.2
theorem IpW.res (h : IpW w f0 f1 f2 f3 n0 n1 n2 n3 W) (i : Nat) : W.cell? ⟨w.heap.size, i, none⟩ = (#[.int .i64 0, .int .i64 0, .int .i64 0, .int .i64 0] : Array Value)[i]? := cell_of_row _ _ _ _ _ _ h.2.1
theorem frozen_of {W : World} {g i : Nat} {t : TypeId} {cs : Array Value} (h : W.heap[g]? = some (.cells cs t (0, 0))) : W.frozen? ⟨g, i, none⟩ = false := by simp [World.frozen?, h]
end

/-- The loop's relation. -/
def IpRel (w : World) (f0 f1 f2 f3 : List UInt8) (v : Value) (wr : World) : Prop :=
  ∃ (k : Nat) (n0 n1 n2 n3 : Int), v = .int .i64 k ∧ k ≤ 4 ∧ (1 ≤ k → PiR f0 n0 true) ∧ (2 ≤ k → PiR f1 n1 true) ∧ (3 ≤ k → PiR f2 n2 true) ∧ (4 ≤ k → PiR f3 n3 true) ∧ IpW w f0 f1 f2 f3 n0 n1 n2 n3 wr

theorem mem_take_le {k : Nat} : ∀ (l : List UInt8) (f : List UInt8), f ∈ Lib.splitK [32] 0 k l → f.length ≤ l.length := by
  induction k with
  | zero => intro l f h; simp [Lib.splitK] at h; subst h; exact Nat.le_refl _
  | succ k ih =>
    intro l f h
    rw [Lib.splitK] at h
    split at h
    · simp at h; subst h; exact Nat.le_refl _
    · rcases List.mem_cons.1 h with h | h
      · subst h; simp; omega
      · have := ih _ f h; simp at this; omega
theorem split_piece (l f : List UInt8) (h : f ∈ Lib.split l [32]) : f.length ≤ l.length := mem_take_le l f h
theorem ip_start (w : World) (f0 f1 f2 f3 : List UInt8) : IpW w f0 f1 f2 f3 0 0 0 0 (((zeroR w).alloc (.cells #[tx f0, tx f1, tx f2, tx f3] 9)).alloc (.cells #[.int .i64 0, .int .i64 0, .int .i64 0, .int .i64 0] 75)) := by
  have s0 : (zeroR w).heap.size = w.heap.size + 1 := World.size_alloc w _
  have s1 : ((zeroR w).alloc (.cells #[tx f0, tx f1, tx f2, tx f3] 9)).heap.size = w.heap.size + 1 + 1 := by rw [World.size_alloc, s0]
  refine ⟨((Below.alloc (Below.refl _ _) (Nat.le_refl _) _).alloc (by rw [s0]; omega) _).alloc (by rw [s1]; omega) _, ?_, ?_, ?_⟩
  · rw [Below.heap_alloc _ _ _ (by rw [s1]; omega), Below.heap_alloc _ _ _ (by rw [s0]; omega)]
    exact heap_alloc_last w _
  · rw [Below.heap_alloc _ _ _ (by rw [s1]; omega), ← s0]
    exact heap_alloc_last _ _
  · have := heap_alloc_last ((zeroR w).alloc (.cells #[tx f0, tx f1, tx f2, tx f3] 9)) (.cells #[.int .i64 0, .int .i64 0, .int .i64 0, .int .i64 0] 75)
    rwa [s1] at this

theorem impl_ParseRecord (l : List UInt8) (hl : l.length ≤ 4294967280) (w : World) (htab : Lib.TabIs Tryd.prog w "internal/strconv.uint64pow10" .u64 Lib.pow10Tab) (m : Int) (hm : w.cell? ⟨1, 0, none⟩ = some (.int .i64 m)) :
    Calls Tryd.prog 24 #[tx l] w (RpEnd l w) := by
  have HM := Lib.hid hm
  have hlt1 : 1 < w.heap.size := World.block_lt_of_cell? _ _ hm
  clear hm
  go_enter Tryd.func24, Tryd.ntmps24
  go_wp2_with fail
  go_at_call 52
  refine (Tryd.strings_Split ⟨l.toArray⟩ ⟨#[32]⟩ m _ (by show l.length < _; omega) (by rw [(show Below w.heap.size w (zeroR w) from Below.alloc (Below.refl _ _) (Nat.le_refl _) _).cell (by exact hlt1)]; exact HM.out) (by decide)).mono ?_
  rintro e w1 ⟨rfl, rfl⟩
  rw [split_cells, split_len]
  obtain ⟨fs, hs⟩ : ∃ fs, Lib.split l [32] = fs := ⟨_, rfl⟩
  rw [hs]
  have HS := Lib.hid hs
  clear hs
  by_cases h4 : fs.length = 4
  · obtain ⟨f0, f1, f2, f3, rfl⟩ : ∃ f0 f1 f2 f3, fs = [f0, f1, f2, f3] := by
      match fs, h4 with
      | [a, b, c, d], _ => exact ⟨a, b, c, d, rfl⟩
    have hpl : ∀ f ∈ [f0, f1, f2, f3], f.length ≤ 4294967280 := fun f hf => by
      have := split_piece l f (by rw [HS.out]; exact hf)
      omega
    have hq0 := hpl f0 (by simp)
    have hq1 := hpl f1 (by simp)
    have hq2 := hpl f2 (by simp)
    have hq3 := hpl f3 (by simp)
    clear h4 hpl
    go_wp2
    go_loopw [19] (fun v wr => IpRel w f0 f1 f2 f3 v wr) (fun v _ => 4 - (RowKit.intOf v).toNat)
    case atStart => exact ⟨0, 0, 0, 0, 0, rfl, by omega, fun h => absurd h (by omega), fun h => absurd h (by omega), fun h => absurd h (by omega), fun h => absurd h (by omega), ip_start w f0 f1 f2 f3⟩
    case round =>
      obtain ⟨k, n0, n1, n2, n3, rfl, hk, hp0, hp1, hp2, hp3, hw⟩ := hrel
      have HW := Lib.hid hw
      have hwl := hw.lt
      have y0 := hw.word 0
      have y1 := hw.word 1
      have y2 := hw.word 2
      have y3 := hw.word 3
      simp only [List.getElem?_toArray, List.getElem?_cons_zero, List.getElem?_cons_succ] at y0 y1 y2 y3
      clear hw
      have hcase : k = 0 ∨ k = 1 ∨ k = 2 ∨ k = 3 ∨ k = 4 := by omega
      rcases hcase with rfl | rfl | rfl | rfl | rfl
      · clear hp0 hp1 hp2 hp3
        go_wp2_with fail
        go_at_call 40
        refine (impl_parseInt f0 (by omega) _ (tab_on htab HW.out.1)).mono ?_
        rintro e w5 ⟨x, ok, rfl, hx, hbx⟩
        have hxr := hx.range
        have HX := Lib.hid hx
        have HV := Lib.hid (HW.out.step hbx)
        clear hx hbx
        have r0 := HV.out.res 0
        have r1 := HV.out.res 1
        have r2 := HV.out.res 2
        have r3 := HV.out.res 3
        have g0 := frozen_of (i := 0) HV.out.2.1
        have g1 := frozen_of (i := 1) HV.out.2.1
        have g2 := frozen_of (i := 2) HV.out.2.1
        have g3 := frozen_of (i := 3) HV.out.2.1
        have a0 := HV.out.num 0
        have b0 := frozen_of (i := 0) HV.out.2.2.2
        simp only [List.getElem?_toArray, List.getElem?_cons_zero, List.getElem?_cons_succ] at r0 r1 r2 r3 a0
        cases ok
        · have HE := Lib.hid (ip_bad (f := f0) HS.out (by simp) HX.out)
          go_wp2
          refine bodyPost_ret (v := .tuple #[.agg #[.int .i64 0, .int .i64 0, .int .i64 0, .int .i64 0], .bool false]) (by simp (maxDischargeDepth := 6) [results, Tryd.results24, go_sem, r0, r1, r2, r3]) rfl ⟨0, 0, 0, 0, false, rfl, HE.out, set4 HV.out.1 _ _ _ _⟩
        · have HR := Lib.hid (HV.out.set 0 (.int .i64 x) (m0 := x) (m1 := n1) (m2 := n2) (m3 := n3) rfl)
          go_wp2
          case roundEnd => exact ⟨⟨0 + 1, x, n1, n2, n3, rfl, by omega, fun _ => HX.out, fun h => absurd h (by omega), fun h => absurd h (by omega), fun h => absurd h (by omega), HR.out⟩, by simp [RowKit.intOf]⟩
      · have HP0 := Lib.hid (hp0 (by omega))
        clear hp0 hp1 hp2 hp3
        go_wp2_with fail
        go_at_call 40
        refine (impl_parseInt f1 (by omega) _ (tab_on htab HW.out.1)).mono ?_
        rintro e w5 ⟨x, ok, rfl, hx, hbx⟩
        have hxr := hx.range
        have HX := Lib.hid hx
        have HV := Lib.hid (HW.out.step hbx)
        clear hx hbx
        have r0 := HV.out.res 0
        have r1 := HV.out.res 1
        have r2 := HV.out.res 2
        have r3 := HV.out.res 3
        have g0 := frozen_of (i := 0) HV.out.2.1
        have g1 := frozen_of (i := 1) HV.out.2.1
        have g2 := frozen_of (i := 2) HV.out.2.1
        have g3 := frozen_of (i := 3) HV.out.2.1
        have a1 := HV.out.num 1
        have b1 := frozen_of (i := 1) HV.out.2.2.2
        simp only [List.getElem?_toArray, List.getElem?_cons_zero, List.getElem?_cons_succ] at r0 r1 r2 r3 a1
        cases ok
        · have HE := Lib.hid (ip_bad (f := f1) HS.out (by simp) HX.out)
          go_wp2
          refine bodyPost_ret (v := .tuple #[.agg #[.int .i64 0, .int .i64 0, .int .i64 0, .int .i64 0], .bool false]) (by simp (maxDischargeDepth := 6) [results, Tryd.results24, go_sem, r0, r1, r2, r3]) rfl ⟨0, 0, 0, 0, false, rfl, HE.out, set4 HV.out.1 _ _ _ _⟩
        · have HR := Lib.hid (HV.out.set 1 (.int .i64 x) (m0 := n0) (m1 := x) (m2 := n2) (m3 := n3) rfl)
          go_wp2
          case roundEnd => exact ⟨⟨1 + 1, n0, x, n2, n3, rfl, by omega, fun _ => HP0.out, fun _ => HX.out, fun h => absurd h (by omega), fun h => absurd h (by omega), HR.out⟩, by simp [RowKit.intOf]⟩
      · have HP0 := Lib.hid (hp0 (by omega))
        have HP1 := Lib.hid (hp1 (by omega))
        clear hp0 hp1 hp2 hp3
        go_wp2_with fail
        go_at_call 40
        refine (impl_parseInt f2 (by omega) _ (tab_on htab HW.out.1)).mono ?_
        rintro e w5 ⟨x, ok, rfl, hx, hbx⟩
        have hxr := hx.range
        have HX := Lib.hid hx
        have HV := Lib.hid (HW.out.step hbx)
        clear hx hbx
        have r0 := HV.out.res 0
        have r1 := HV.out.res 1
        have r2 := HV.out.res 2
        have r3 := HV.out.res 3
        have g0 := frozen_of (i := 0) HV.out.2.1
        have g1 := frozen_of (i := 1) HV.out.2.1
        have g2 := frozen_of (i := 2) HV.out.2.1
        have g3 := frozen_of (i := 3) HV.out.2.1
        have a2 := HV.out.num 2
        have b2 := frozen_of (i := 2) HV.out.2.2.2
        simp only [List.getElem?_toArray, List.getElem?_cons_zero, List.getElem?_cons_succ] at r0 r1 r2 r3 a2
        cases ok
        · have HE := Lib.hid (ip_bad (f := f2) HS.out (by simp) HX.out)
          go_wp2
          refine bodyPost_ret (v := .tuple #[.agg #[.int .i64 0, .int .i64 0, .int .i64 0, .int .i64 0], .bool false]) (by simp (maxDischargeDepth := 6) [results, Tryd.results24, go_sem, r0, r1, r2, r3]) rfl ⟨0, 0, 0, 0, false, rfl, HE.out, set4 HV.out.1 _ _ _ _⟩
        · have HR := Lib.hid (HV.out.set 2 (.int .i64 x) (m0 := n0) (m1 := n1) (m2 := x) (m3 := n3) rfl)
          go_wp2
          case roundEnd => exact ⟨⟨2 + 1, n0, n1, x, n3, rfl, by omega, fun _ => HP0.out, fun _ => HP1.out, fun _ => HX.out, fun h => absurd h (by omega), HR.out⟩, by simp [RowKit.intOf]⟩
      · have HP0 := Lib.hid (hp0 (by omega))
        have HP1 := Lib.hid (hp1 (by omega))
        have HP2 := Lib.hid (hp2 (by omega))
        clear hp0 hp1 hp2 hp3
        go_wp2_with fail
        go_at_call 40
        refine (impl_parseInt f3 (by omega) _ (tab_on htab HW.out.1)).mono ?_
        rintro e w5 ⟨x, ok, rfl, hx, hbx⟩
        have hxr := hx.range
        have HX := Lib.hid hx
        have HV := Lib.hid (HW.out.step hbx)
        clear hx hbx
        have r0 := HV.out.res 0
        have r1 := HV.out.res 1
        have r2 := HV.out.res 2
        have r3 := HV.out.res 3
        have g0 := frozen_of (i := 0) HV.out.2.1
        have g1 := frozen_of (i := 1) HV.out.2.1
        have g2 := frozen_of (i := 2) HV.out.2.1
        have g3 := frozen_of (i := 3) HV.out.2.1
        have a3 := HV.out.num 3
        have b3 := frozen_of (i := 3) HV.out.2.2.2
        simp only [List.getElem?_toArray, List.getElem?_cons_zero, List.getElem?_cons_succ] at r0 r1 r2 r3 a3
        cases ok
        · have HE := Lib.hid (ip_bad (f := f3) HS.out (by simp) HX.out)
          go_wp2
          refine bodyPost_ret (v := .tuple #[.agg #[.int .i64 0, .int .i64 0, .int .i64 0, .int .i64 0], .bool false]) (by simp (maxDischargeDepth := 6) [results, Tryd.results24, go_sem, r0, r1, r2, r3]) rfl ⟨0, 0, 0, 0, false, rfl, HE.out, set4 HV.out.1 _ _ _ _⟩
        · have HR := Lib.hid (HV.out.set 3 (.int .i64 x) (m0 := n0) (m1 := n1) (m2 := n2) (m3 := x) rfl)
          go_wp2
          case roundEnd => exact ⟨⟨3 + 1, n0, n1, n2, x, rfl, by omega, fun _ => HP0.out, fun _ => HP1.out, fun _ => HP2.out, fun _ => HX.out, HR.out⟩, by simp [RowKit.intOf]⟩
      · have HP0 := Lib.hid (hp0 (by omega))
        have HP1 := Lib.hid (hp1 (by omega))
        have HP2 := Lib.hid (hp2 (by omega))
        have HP3 := Lib.hid (hp3 (by omega))
        have hr0 := HP0.out.range
        have hr1 := HP1.out.range
        have hr2 := HP2.out.range
        have hr3 := HP3.out.range
        unfold InQ at hr0 hr1 hr2 hr3
        clear hp0 hp1 hp2 hp3
        have a0 := HW.out.num 0
        have a1 := HW.out.num 1
        have a2 := HW.out.num 2
        have a3 := HW.out.num 3
        simp only [List.getElem?_toArray, List.getElem?_cons_zero, List.getElem?_cons_succ] at a0 a1 a2 a3
        have HWA := Lib.hid (Below.alloc HW.out.1 HW.out.1.size (.cells #[.int .i64 n0, .int .i64 n1, .int .i64 n2, .int .i64 n3] 25))
        have hlen := recTx_length n0 n1 n2 n3
        by_cases hsame : recTx n0 n1 n2 n3 = l
        · have HE := Lib.hid (ip_yes HS.out hsame)
          have c9 : (recTx n0 n1 n2 n3 == l) = true := beq_iff_eq.2 hsame
          clear hsame
          go_wp2_with (first | (go_at_call 11; (with_reducible refine (impl_FormatRecord n0 n1 n2 n3 (by omega) (by omega) (by omega) (by omega) (by omega) (by omega) (by omega) (by omega) _ (tab_on htab HWA.out)).mono ?_); rintro e w6 ⟨rfl, hbx⟩; obtain ⟨_, k0, k1, k2, k3⟩ := keepR hbx; have HV := Lib.hid (HW.out.step (on_call (Below.alloc (Below.refl _ _) (Nat.le_refl _) _) hbx)); clear hbx; have r0 := HV.out.res 0; have r1 := HV.out.res 1; have r2 := HV.out.res 2; have r3 := HV.out.res 3; have g0 := frozen_of (i := 0) HV.out.2.1; have g1 := frozen_of (i := 1) HV.out.2.1; have g2 := frozen_of (i := 2) HV.out.2.1; have g3 := frozen_of (i := 3) HV.out.2.1; simp only [List.getElem?_toArray, List.getElem?_cons_zero, List.getElem?_cons_succ] at r0 r1 r2 r3))
          refine bodyPost_ret (v := .tuple #[.agg #[.int .i64 n0, .int .i64 n1, .int .i64 n2, .int .i64 n3], .bool true]) (by simp (maxDischargeDepth := 6) [results, Tryd.results24, go_sem, r0, r1, r2, r3]) rfl ⟨n0, n1, n2, n3, true, rfl, HE.out, set4 HV.out.1 _ _ _ _⟩
        · have HE := Lib.hid (ip_other HS.out HP0.out HP1.out HP2.out HP3.out hsame)
          have c9 : (recTx n0 n1 n2 n3 == l) = false := beq_eq_false_iff_ne.2 hsame
          clear hsame
          go_wp2_with (first | (go_at_call 11; (with_reducible refine (impl_FormatRecord n0 n1 n2 n3 (by omega) (by omega) (by omega) (by omega) (by omega) (by omega) (by omega) (by omega) _ (tab_on htab HWA.out)).mono ?_); rintro e w6 ⟨rfl, hbx⟩; obtain ⟨_, k0, k1, k2, k3⟩ := keepR hbx; have HV := Lib.hid (HW.out.step (on_call (Below.alloc (Below.refl _ _) (Nat.le_refl _) _) hbx)); clear hbx; have r0 := HV.out.res 0; have r1 := HV.out.res 1; have r2 := HV.out.res 2; have r3 := HV.out.res 3; have g0 := frozen_of (i := 0) HV.out.2.1; have g1 := frozen_of (i := 1) HV.out.2.1; have g2 := frozen_of (i := 2) HV.out.2.1; have g3 := frozen_of (i := 3) HV.out.2.1; simp only [List.getElem?_toArray, List.getElem?_cons_zero, List.getElem?_cons_succ] at r0 r1 r2 r3))
          refine bodyPost_ret (v := .tuple #[.agg #[.int .i64 0, .int .i64 0, .int .i64 0, .int .i64 0], .bool false]) (by simp (maxDischargeDepth := 6) [results, Tryd.results24, go_sem, r0, r1, r2, r3]) rfl ⟨0, 0, 0, 0, false, rfl, HE.out, set4 HV.out.1 _ _ _ _⟩
  · have d4 : ((fs.length : Int) != 4) = true := bne_iff_ne.2 (by omega)
    have HE := Lib.hid (ip_none (l := l) (by rw [HS.out]; exact h4))
    have HB : Hid (Below (zeroR w).heap.size (zeroR w) ((zeroR w).alloc (.cells (txs fs).toArray 9))) := Lib.hid (Below.alloc (Below.refl _ _) (Nat.le_refl _) _)
    obtain ⟨⟨r0, r1, r2, r3⟩, ⟨g0, g1, g2, g3⟩, hz⟩ := zero_keep HB.out
    have HW1 := Lib.hid (from_zero HB.out)
    go_wp2
    refine bodyPost_ret (v := .tuple #[.agg #[.int .i64 0, .int .i64 0, .int .i64 0, .int .i64 0], .bool false]) (by simp (maxDischargeDepth := 6) [results, Tryd.results24, go_sem, r0, r1, r2, r3]) rfl ⟨0, 0, 0, 0, false, rfl, HE.out, HW1.out⟩
end Go.Proofs.YtldcciipicnooaaDoor
