/- The reference's reader of expressions: its state; the next byte, a text, a node put behind, figures. No condition. -/
import Derived.Test.YtjgjgjkffoagoaaDoorPrs
import Derived.Test.YtjgjgjkffoagoaaDoorPsS
import Derived.Laws.DeepStrings4
namespace Go.Proofs.YtjgjgjkffoagoaaDoor
open Go.RowKit
open Go.Lib (itoa decDigits nDigits nDigits_le20 itoa_length_le)
attribute [local go_sem] run_store_float run_store_complex
set_option maxRecDepth 100000
set_option maxHeartbeats 1000000
set_option linter.unusedVariables false
set_option linter.unusedSimpArgs false

/-- The reference's reader at a place of a text, with the nodes read so far. -/
def Rz (w0 : World) (s : List UInt8) (w : World) (i : Nat) (out : List Nd) (f : Bool) : Prop :=
  ∃ v, Blk w w0.heap.size 61 #[tx s, .int .i64 (i : Int), .bool f, v] ∧ w.ownsRow (w0.heap.size + 1) 43 3 v out.length (out.flatMap ndCells) ∧ i ≤ s.length ∧ Below w0.heap.size w0 w
section
variable {w0 w : World} {s : List UInt8} {i : Nat} {out : List Nd} {f : Bool}
theorem Rz.drewN (h : Rz w0 s w i out f) (n : Nat) : Rz w0 s (w.drewN n) i out f := by
  obtain ⟨v, a, b, c, d⟩ := h
  exact ⟨v, a, b, c, bl_drewN d n⟩
theorem Rz.drew (h : Rz w0 s w i out f) : Rz w0 s w.drew i out f := by
  obtain ⟨v, a, b, c, d⟩ := h
  exact ⟨v, a, b, c, bl_drew d⟩
theorem Rz.le (h : Rz w0 s w i out f) : i ≤ s.length := h.choose_spec.2.2.1
theorem Rz.bel (h : Rz w0 s w i out f) : Below w0.heap.size w0 w := h.choose_spec.2.2.2
theorem Rz.lt (h : Rz w0 s w i out f) : w0.heap.size < w.heap.size := h.choose_spec.1.lt
theorem Rz.below {w' : World} (h : Rz w0 s w i out f) (hb : Below w.heap.size w w') : Rz w0 s w' i out f := by
  obtain ⟨v, a, b, c, d⟩ := h
  exact ⟨v, a.below hb a.lt, own_below b hb, c, bl_call d hb⟩
theorem Rz.setAt (h : Rz w0 s w i out f) {j : Nat} (hj : j ≤ s.length) : Rz w0 s (w.setCell ⟨w0.heap.size, 1, none⟩ (.int .i64 (j : Int))) j out f := by
  obtain ⟨v, a, b, c, d⟩ := h
  exact ⟨v, a.set_ 1 _, own_keep b (fun k hk _ => Below.heap_setCell w ⟨w0.heap.size, 1, none⟩ _ k (by simp; omega)), hj, bl_set d (Nat.le_refl _) _⟩
theorem Rz.setBad (h : Rz w0 s w i out f) : Rz w0 s (w.setCell ⟨w0.heap.size, 2, none⟩ (.bool true)) i out true := by
  obtain ⟨v, a, b, c, d⟩ := h
  exact ⟨v, a.set_ 2 _, own_keep b (fun k hk _ => Below.heap_setCell w ⟨w0.heap.size, 2, none⟩ _ k (by simp; omega)), c, bl_set d (Nat.le_refl _) _⟩
theorem Rz.atOf (h : Rz w0 s w i out f) : atOf w0.heap.size w = i := by
  obtain ⟨v, a, _⟩ := h
  unfold _root_.Go.Proofs.YtjgjgjkffoagoaaDoor.atOf
  rw [a.cell 1]
  simp [RowKit.intOf]
end
def NextEnd (w0 : World) (s : List UInt8) (i : Nat) (out : List Nd) (f : Bool) (e : Ending) (w' : World) : Prop := e = .returned (.int .u8 ((if f then 0 else nextB s i : Nat) : Int)) ∧ Rz w0 s w' (skip s i) out f
theorem next_any (w0 w : World) (s : List UInt8) (hs : s.length ≤ 1000000) (i : Nat) (out : List Nd) (f : Bool) (h : Rz w0 s w i out f) :
    Calls Tryd.prog 28 #[.pointer (some ⟨w0.heap.size, 0, none⟩)] w (NextEnd w0 s i out f) := by
  have H := Lib.hid h
  have hil := h.le
  clear h
  go_enter Tryd.func28, Tryd.ntmps28
  go_wp2
  go_loopw [] (fun wr => ∃ k, Rz w0 s wr k out f ∧ skip s k = skip s i) (fun wr => s.length - atOf w0.heap.size wr)
  case atStart => exact ⟨i, H.out, rfl⟩
  case round =>
    obtain ⟨k, hr, hsk⟩ := hrel
    have HR := Lib.hid hr
    have HS := Lib.hid hsk
    have hme := hr.atOf
    obtain ⟨v, hb, hown, hkl, hbel⟩ := hr
    have b0 := hb.cell 0
    have b1 := hb.cell 1
    have b2 := hb.cell 2
    have f1 := hb.frozen 1
    clear hb hown hsk hbel
    by_cases hk : k < s.length
    · have c1 : decide ((k : Int) < (s.length : Int)) = true := decide_eq_true (by omega)
      have hsz : k < (⟨s.toArray⟩ : ByteArray).size := by simpa [ByteArray.size] using hk
      obtain ⟨x, hx⟩ : ∃ x : Nat, ((⟨s.toArray⟩ : ByteArray)[k]'hsz).toNat = x := ⟨_, rfl⟩
      have hxs : s[k].toNat = x := by rw [← hx]; rfl
      by_cases h32 : x = 32
      · have c2 : ((x : Int) == 32) = true := beq_iff_eq.2 (by omega)
        have hs32 : s[k] = 32 := by
          apply UInt8.toNat_inj.1
          rw [hxs, h32]; rfl
        have HN : Hid (∀ m, Rz w0 s ((wr.drewN m).setCell ⟨w0.heap.size, 1, none⟩ (.int .i64 ((k : Int) + 1))) (k + 1) out f ∧ skip s (k + 1) = skip s i) := Lib.hid fun m => ⟨by have := (HR.out.drewN m).setAt (j := k + 1) (by omega); simpa using this, (skip_step hk hs32).trans HS.out⟩
        clear hs32
        go_wp2
        go_quiet (fail)
        go_wp2
        case roundEnd =>
          have h9 := HN.out nq
          refine ⟨⟨k + 1, h9.1, h9.2⟩, ?_⟩
          rw [h9.1.atOf, HR.out.atOf]
          omega
      · have c2 : ((x : Int) == 32) = false := beq_eq_false_iff_ne.2 (by omega)
        have hsk : skip s i = k := by
          rw [← HS.out]
          refine skip_stop hk fun he => h32 ?_
          rw [← hxs, he]; rfl
        have HE : Hid (∀ w', Rz w0 s w' k out f → NextEnd w0 s i out f (.returned (.int .u8 ((if f then 0 else x : Nat) : Int))) w') := Lib.hid fun w' hw' => ⟨by
          have hn : nextB s i = x := by unfold nextB; rw [hsk, List.getElem?_eq_getElem hk]; exact hxs
          rw [hn], by rw [hsk]; exact hw'⟩
        clear hsk h32
        cases f
        · go_wp2
          go_quiet (fail)
          go_wp2
          go_quiet (fail)
          go_wp2
          go_quiet (fail)
          go_wp2
          go_ret
          exact HE.out _ (by repeat (first | exact HR.out | refine Rz.drewN ?_ _ | refine Rz.drew ?_))
        · go_wp2
          go_quiet (fail)
          go_wp2
          go_quiet (fail)
          go_wp2
          go_ret
          exact HE.out _ (by repeat (first | exact HR.out | refine Rz.drewN ?_ _ | refine Rz.drew ?_))
    · have c1 : decide ((k : Int) < (s.length : Int)) = false := decide_eq_false (by omega)
      have hsk : skip s i = k := by
        rw [← HS.out]
        exact skip_end (by omega)
      have HE : Hid (∀ w', Rz w0 s w' k out f → NextEnd w0 s i out f (.returned (.int .u8 0)) w') := Lib.hid fun w' hw' => ⟨by
        have hn : nextB s i = 0 := by unfold nextB; rw [hsk, List.getElem?_eq_none (by omega)]; rfl
        rw [hn]; cases f <;> rfl, by rw [hsk]; exact hw'⟩
      clear hsk
      go_wp2
      go_quiet (fail)
      go_wp2
      go_quiet (fail)
      go_wp2
      go_ret
      exact HE.out _ (by repeat (first | exact HR.out | refine Rz.drewN ?_ _ | refine Rz.drew ?_))
/-- A text stands next, told by a slice. -/
theorem stands_take (s : List UInt8) (i : Nat) (t : List UInt8) : stands s i t = ((s.drop (skip s i)).take t.length == t) := by
  unfold stands Lib.hasPrefix
  rw [Bool.eq_iff_iff, List.isPrefixOf_iff_prefix, List.prefix_iff_eq_take, beq_iff_eq]
  exact ⟨fun h => h.symm, fun h => h.symm⟩
theorem part_of (s : List UInt8) (p n : Nat) : (⟨s.toArray⟩ : ByteArray).extract p (p + n) = ⟨((s.drop p).take n).toArray⟩ := by
  rw [Lib.extract_eq, show p + n - p = n by omega]
def WordZ (w0 : World) (s : List UInt8) (i : Nat) (out : List Nd) (f : Bool) (t : List UInt8) (e : Ending) (w' : World) : Prop :=
  e = .returned (.bool (!f && stands s i t)) ∧ Rz w0 s w' (if !f && stands s i t then skip s i + t.length else skip s i) out f
theorem wordS_any (c : UInt8) (t' : List UInt8) (hc0 : c ≠ 0) (ht : (c :: t').length ≤ 1000) (w0 w : World) (s : List UInt8) (hs : s.length ≤ 1000000) (i : Nat) (out : List Nd) (f : Bool) (h : Rz w0 s w i out f) :
    Calls Tryd.prog 46 #[.pointer (some ⟨w0.heap.size, 0, none⟩), tx (c :: t')] w (WordZ w0 s i out f (c :: t')) := by
  have H := Lib.hid h
  have hil := h.le
  clear h
  go_enter Tryd.func46, Tryd.ntmps46
  go_wp2_with fail
  go_at_call 28
  refine (next_any w0 _ s hs i out f H.out).mono ?_
  rintro e w1 ⟨rfl, hr⟩
  have HR := Lib.hid hr
  obtain ⟨v, hb, hown, hkl, hbel⟩ := hr
  have b0 := hb.cell 0
  have b1 := hb.cell 1
  have f1 := hb.frozen 1
  clear hb hown hbel
  cases f
  · obtain ⟨p, hp⟩ : ∃ p, skip s i = p := ⟨_, rfl⟩
    have HSK := Lib.hid hp
    have HNO : Hid (stands s i (c :: t') = false → ∀ w', Rz w0 s w' p out false → WordZ w0 s i out false (c :: t') (.returned (.bool false)) w') := Lib.hid fun h0 w' hw' => ⟨by rw [h0]; rfl, by rw [h0, HSK.out]; exact hw'⟩
    have HYE : Hid (stands s i (c :: t') = true → ∀ w', Rz w0 s w' p out false → p + (c :: t').length ≤ s.length → WordZ w0 s i out false (c :: t') (.returned (.bool true)) (w'.setCell ⟨w0.heap.size, 1, none⟩ (.int .i64 ((p : Int) + ((t'.length : Int) + 1))))) := Lib.hid fun h0 w' hw' hl => ⟨by rw [h0]; rfl, by
      rw [h0, HSK.out]
      have := hw'.setAt (j := p + (c :: t').length) hl
      simpa using this⟩
    rw [hp] at HR b1 hkl
    by_cases hpl : p < s.length
    · have hxv : nextB s i = s[p].toNat := by unfold nextB; rw [hp, List.getElem?_eq_getElem hpl]; rfl
      obtain ⟨x, hx⟩ : ∃ x : Nat, s[p].toNat = x := ⟨_, rfl⟩
      rw [hxv, hx]
      by_cases hx0 : x = 0
      · subst hx0
        have HE := Lib.hid (HNO.out (by
          rw [stands_take, hp, List.drop_eq_getElem_cons hpl]
          refine beq_eq_false_iff_ne.2 fun h9 => hc0 ?_
          have h10 := (List.cons.inj h9).1
          rw [← h10]
          exact UInt8.toNat_inj.1 hx))
        clear hxv hx hp
        go_wp2
        go_quiet (fail)
        go_wp2
        go_ret
        exact HE.out _ (by repeat (first | exact HR.out | refine Rz.drewN ?_ _ | refine Rz.drew ?_))
      · have c0 : ((x : Int) == 0) = false := beq_eq_false_iff_ne.2 (by omega)
        clear hxv hx
        by_cases hsh : s.length < p + (t'.length + 1)
        · have c1 : decide ((s.length : Int) - (p : Int) < (t'.length : Int) + 1) = true := decide_eq_true (by omega)
          have hws : IntKind.i64.wrap ((s.length : Int) - (p : Int)) = (s.length : Int) - (p : Int) := by rw [IntKind.wrap_i64]; omega
          have HE := Lib.hid (HNO.out (by
            rw [stands_take, hp]
            refine beq_eq_false_iff_ne.2 fun h9 => ?_
            have := congrArg List.length h9
            rw [List.length_take, List.length_drop] at this
            simp at this
            omega))
          clear hsh hp
          go_wp2
          go_quiet (fail)
          go_wp2
          go_ret
          exact HE.out _ (by repeat (first | exact HR.out | refine Rz.drewN ?_ _ | refine Rz.drew ?_))
        · have c1 : decide ((s.length : Int) - (p : Int) < (t'.length : Int) + 1) = false := decide_eq_false (by omega)
          have hws : IntKind.i64.wrap ((s.length : Int) - (p : Int)) = (s.length : Int) - (p : Int) := by rw [IntKind.wrap_i64]; omega
          have hwp : IntKind.i64.wrap ((p : Int) + ((t'.length : Int) + 1)) = (p : Int) + ((t'.length : Int) + 1) := by rw [IntKind.wrap_i64]; simp at ht; omega
          have j1 : (0 : Int) ≤ (p : Int) + ((t'.length : Int) + 1) := by omega
          have j2 : (p : Int) + ((t'.length : Int) + 1) ≤ (s.length : Int) := by omega
          have j3 : (p : Int) ≤ (p : Int) + ((t'.length : Int) + 1) := by omega
          have j4 : ((p : Int) + ((t'.length : Int) + 1)).toNat = p + (t'.length + 1) := by omega
          have g1 : (p + (t'.length + 1) < p) = False := eq_false (by omega)
          have g2 : (s.length < p + (t'.length + 1)) = False := eq_false (by omega)
          have g3 : (p + (t'.length + 1) ≤ s.length) = True := eq_true (by omega)
          have eX : (⟨s.toArray⟩ : ByteArray).extract p (p + (t'.length + 1)) = ⟨((s.drop p).take (t'.length + 1)).toArray⟩ := part_of s p _
          obtain ⟨q, hq⟩ : ∃ q, ((s.drop p).take (t'.length + 1) == c :: t') = q := ⟨_, rfl⟩
          have hst : stands s i (c :: t') = q := by rw [stands_take, hp]; exact hq
          have hqn : ((s.drop p).take (t'.length + 1) != c :: t') = !q := by rw [bne, hq]
          have hql : ((⟨((s.drop p).take (t'.length + 1)).toArray⟩ : ByteArray).toList == c :: t') = q := by rw [ByteArray.toList_mk]; exact hq
          have hqm : ((⟨((s.drop p).take (t'.length + 1)).toArray⟩ : ByteArray).toList != c :: t') = !q := by rw [bne, hql]
          cases q
          · have HE := Lib.hid (HNO.out hst)
            clear hst hsh hp
            go_wp2
            go_quiet (fail)
            go_wp2
            go_ret
            exact HE.out _ (by repeat (first | exact HR.out | refine Rz.drewN ?_ _ | refine Rz.drew ?_))
          · have HE := Lib.hid (HYE.out hst)
            have hle : p + (c :: t').length ≤ s.length := by simp; omega
            clear hst hsh hp
            go_wp2
            go_quiet (fail)
            go_wp2
            go_ret
            exact HE.out _ (by repeat (first | exact HR.out | refine Rz.drewN ?_ _ | refine Rz.drew ?_)) hle
    · have hxv : nextB s i = 0 := by unfold nextB; rw [hp, List.getElem?_eq_none (by omega)]; rfl
      rw [hxv]
      have HE := Lib.hid (HNO.out (by
        rw [stands_take, hp, List.drop_eq_nil_of_le (by omega)]; rfl))
      clear hxv hp
      go_wp2
      go_quiet (fail)
      go_wp2
      go_ret
      exact HE.out _ (by repeat (first | exact HR.out | refine Rz.drewN ?_ _ | refine Rz.drew ?_))
  · have HE : Hid (∀ w', Rz w0 s w' (skip s i) out true → WordZ w0 s i out true (c :: t') (.returned (.bool false)) w') := Lib.hid fun w' hw' => ⟨rfl, hw'⟩
    go_wp2
    go_quiet (fail)
    go_wp2
    go_ret
    exact HE.out _ (by repeat (first | exact HR.out | refine Rz.drewN ?_ _ | refine Rz.drew ?_))
/-- A node behind. -/
theorem rz_app {w0 w w' : World} {s : List UInt8} {i n g' cap : Nat} {out : List Nd} {f : Bool} {v : Value} {x : Nd} {xs : List Value} {o : Obj} (hb : Blk w w0.heap.size 61 #[tx s, .int .i64 (i : Int), .bool f, v]) (hown : w.ownsRow (w0.heap.size + 1) 43 3 v out.length (out.flatMap ndCells)) (hi : i ≤ s.length) (hbel : Below w0.heap.size w0 w)
    (hn : n = out.length + 1) (hx : xs = out.flatMap ndCells ++ ndCells x) (hown' : w'.ownsRow (w0.heap.size + 1) 43 3 (.slice (some ⟨g', 0, none⟩) n cap) n xs) (hgrow : (w.alloc o).grownBy w' v.ownBlock) :
    Rz w0 s (w'.setCell ⟨w0.heap.size, 3, none⟩ (.slice (some ⟨g', 0, none⟩) n cap)) i (out ++ [x]) f := by
  subst hn hx
  have hrow : ∀ j, v.ownBlock = some j → w0.heap.size + 1 ≤ j := fun j hj => (hown.lt j hj).1
  have hb' := (blk_grown (hb.alloc o) hgrow (fun hj => by have := hrow _ hj.symm; omega)).set_ 3 (.slice (some ⟨g', 0, none⟩) (out.length + 1) cap)
  refine ⟨_, hb', ?_, hi, bl_set ((bl_alloc hbel o).grown hgrow (Nat.le_trans hbel.size (by rw [World.size_alloc]; omega)) (fun j hj => by have := hrow j hj; omega)) (Nat.le_refl _) _⟩
  refine own_keep ?_ (fun k hk _ => Below.heap_setCell w' ⟨w0.heap.size, 3, none⟩ _ k (by simp; omega))
  rw [List.flatMap_append, List.length_append]
  simpa using hown'
theorem Rz.cells {w0 w : World} {s : List UInt8} {i : Nat} {out : List Nd} {f : Bool} (h : Rz w0 s w i out f) : w.cell? ⟨w0.heap.size, 0, none⟩ = some (tx s) ∧ w.cell? ⟨w0.heap.size, 1, none⟩ = some (.int .i64 (i : Int)) ∧ w.cell? ⟨w0.heap.size, 2, none⟩ = some (.bool f) ∧ w.frozen? ⟨w0.heap.size, 1, none⟩ = false ∧ w.frozen? ⟨w0.heap.size, 2, none⟩ = false := by
  obtain ⟨v, a, _⟩ := h
  exact ⟨a.cell 0, a.cell 1, a.cell 2, a.frozen 1, a.frozen 2⟩
theorem putS_any (x : Nd) (w0 w : World) (s : List UInt8) (i : Nat) (out : List Nd) (f : Bool) (hlen : out.length ≤ 1000000) (h : Rz w0 s w i out f) :
    Calls Tryd.prog 47 #[.pointer (some ⟨w0.heap.size, 0, none⟩), .agg #[.int .i64 x.kind, .int .i64 x.slot, .complex .f64 x.re x.im]] w fun e w' => e = .returned (.tuple #[]) ∧ Rz w0 s w' i (out ++ [x]) (f || decide (60 < out.length + 1)) := by
  have HR1 := Lib.hid (h.below (bl_alloc (Below.refl _ w) (.cells #[.int .i64 x.kind, .int .i64 x.slot, .complex .f64 x.re x.im] 43)))
  have hlt := h.lt
  have hil := h.le
  have HX := Lib.hid (Blk.new w 43 #[.int .i64 x.kind, .int .i64 x.slot, .complex .f64 x.re x.im])
  clear h
  go_enter Tryd.func47, Tryd.ntmps47
  go_upto_region 1 with fail
  obtain ⟨v, hb, hown, _, hbel⟩ := HR1.out
  have hxx := HX.out
  generalize hwc : w.alloc (.cells #[.int .i64 x.kind, .int .i64 x.slot, .complex .f64 x.re x.im] 43) = wc at hb hown hbel hxx ⊢
  have hltc : w0.heap.size < wc.heap.size := hb.lt
  have HB := Lib.hid hb
  have HO := Lib.hid hown
  have HBEL := Lib.hid hbel
  have b3 := hb.cell 3
  have t0 := hxx.cell 0
  have t1 := hxx.cell 1
  have t2 := hxx.cell 2
  have hfr3 := hb.frozen 3
  have b3' := (hb.alloc (.cells #[.int .i64 x.kind, .int .i64 x.slot, .complex .f64 x.re x.im] 43)).cell 3
  clear hb hown hbel hxx hwc
  obtain ⟨i0, hii, hz0, hz1, hz2⟩ := info_parts A_infoN
  obtain ⟨q, hq⟩ : ∃ q, decide (60 < out.length + 1) = q := ⟨_, rfl⟩
  have c6 : decide ((60 : Int) < (out.length : Int) + 1) = q := by rw [← hq]; congr 1; apply propext; omega
  have HQ := Lib.hid hq
  clear hq
  go_region_law (refine step_append_lies _ (by rfl) _ _ 24 (by rfl) (w0.heap.size + 1) 43 i0 (.agg #[.int .i64 0, .int .i64 0, .complex .f64 0 0]) 3 32 Tryd.underlying24 hii hz0 hz1 hz2 rfl (by decide) _ _ _ (by rfl) (own_below HO.out (bl_alloc (Below.drew (Below.refl _ wc)) _)) ⟨wc.heap.size, 0, none⟩ 1 1 (ndCells x) (by rfl) (by rfl) (nd_news wc.drew x) (nd_one' _) (by decide) (by unfold maxLen; omega) (by omega) (show w0.heap.size + 1 ≤ (wc.alloc _).heap.size by rw [World.size_alloc]; omega) _ (by rfl) ?_; intro g' cap' w9 hown' hgrow hlies _; have HB9 := Lib.hid (blk_grown ((show Blk wc.drew w0.heap.size _ _ from HB.out).alloc _) hgrow (fun hj => by have := (HO.out.lt _ hj.symm).1; omega)); have q9 := HB9.out.cell 3; have f9 := HB9.out.frozen 3; have HNN := Lib.hid (rz_app (x := x) (w := wc.drew) HB.out HO.out hil (bl_drew HBEL.out) rfl rfl hown' hgrow); clear hown' hgrow hlies)
  all_goals
    have y2 := HNN.out.cells.2.2.1
    have y3 := HNN.out.cells.2.2.2.2
    have hNv := HNN.out
    obtain ⟨v9, hb9, _⟩ := hNv
    have HFL := Lib.hid HNN.out.setBad
    cases q
    · go_wp2
      first
        | refine bodyPost_end (results_none rfl _ _ _) rfl ⟨rfl, by rw [HQ.out, Bool.or_false]; exact HNN.out⟩
        | refine bodyPost_ret (results_none rfl _ _ _) rfl ⟨rfl, by rw [HQ.out, Bool.or_false]; exact HNN.out⟩
    · go_wp2
      first
        | refine bodyPost_end (results_none rfl _ _ _) rfl ⟨rfl, by rw [HQ.out, Bool.or_true]; exact HFL.out⟩
        | refine bodyPost_ret (results_none rfl _ _ _) rfl ⟨rfl, by rw [HQ.out, Bool.or_true]; exact HFL.out⟩
theorem digitsS_any (s : List UInt8) (hs : s.length ≤ 1000000) (i : Nat) (w : World) : Calls Tryd.prog 117 #[tx s, .int .i64 (i : Int)] w fun e w' => e = .returned (.int .i64 (figE s i : Int)) ∧ w' = w := by
  go_enter Tryd.func117, Tryd.ntmps117
  go_wp2
  go_loopw [1] (fun p wr => ∃ k : Nat, p = .int .i64 (k : Int) ∧ k ≤ max i s.length ∧ figE s k = figE s i ∧ wr = w) (fun p _ => s.length - (RowKit.intOf p).toNat)
  case atStart => exact ⟨i, rfl, by omega, rfl, rfl⟩
  case round =>
    obtain ⟨k, rfl, hkm, hfe, hwr⟩ := hrel
    have hwr := hwr.symm
    subst hwr
    have HS := Lib.hid hfe
    clear hfe
    by_cases hk : k < s.length
    · have c1 : decide ((k : Int) < (s.length : Int)) = true := decide_eq_true (by omega)
      have hsz : k < (⟨s.toArray⟩ : ByteArray).size := by simpa [ByteArray.size] using hk
      obtain ⟨x, hx⟩ : ∃ x : Nat, ((⟨s.toArray⟩ : ByteArray)[k]'hsz).toNat = x := ⟨_, rfl⟩
      have hxs : s[k].toNat = x := by rw [← hx]; rfl
      have HF : Hid (isFig s[k] = (decide (48 ≤ x) && decide (x ≤ 57))) := Lib.hid (by unfold isFig; rw [hxs])
      by_cases h48 : 48 ≤ x
      · have c2 : decide ((48 : Int) ≤ (x : Int)) = true := decide_eq_true (by omega)
        by_cases h57 : x ≤ 57
        · have c3 : decide ((x : Int) ≤ 57) = true := decide_eq_true (by omega)
          have HN := Lib.hid ((figE_step hk (by rw [HF.out, decide_eq_true h48, decide_eq_true h57]; rfl)).trans HS.out)
          go_wp2
          case roundEnd => exact ⟨⟨k + 1, by simp, by omega, HN.out, by first | rfl | trivial⟩, by simp [RowKit.intOf]; omega⟩
        · have c3 : decide ((x : Int) ≤ 57) = false := decide_eq_false (by omega)
          have HN := Lib.hid ((figE_stop hk (by rw [HF.out, decide_eq_false h57, Bool.and_false])).symm.trans HS.out)
          go_wp2
          go_ret
          exact ⟨by rw [← HN.out]; rfl, rfl⟩
      · have c2 : decide ((48 : Int) ≤ (x : Int)) = false := decide_eq_false (by omega)
        have HN := Lib.hid ((figE_stop hk (by rw [HF.out, decide_eq_false h48, Bool.false_and])).symm.trans HS.out)
        go_wp2
        go_ret
        exact ⟨by rw [← HN.out]; rfl, rfl⟩
    · have c1 : decide ((k : Int) < (s.length : Int)) = false := decide_eq_false (by omega)
      have HN := Lib.hid ((figE_end (s := s) (i := k) (by omega)).symm.trans HS.out)
      go_wp2
      go_ret
      exact ⟨by rw [← HN.out]; rfl, rfl⟩
end Go.Proofs.YtjgjgjkffoagoaaDoor
