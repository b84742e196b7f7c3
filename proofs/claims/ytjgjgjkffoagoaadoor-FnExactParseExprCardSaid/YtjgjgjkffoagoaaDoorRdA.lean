/- The reader of expressions: its state; going over spaces, a text, figures. No condition. -/
import Derived.Test.YtjgjgjkffoagoaaDoorPsI
import Derived.Test.YtjgjgjkffoagoaaDoorEx
import Derived.Deep.RegionHeld3
namespace Go.Proofs.YtjgjgjkffoagoaaDoor
open Go.RowKit
open Go.Lib (itoa decDigits nDigits nDigits_le20 itoa_length_le)
attribute [local go_sem] run_store_float run_store_complex
set_option maxRecDepth 100000
set_option maxHeartbeats 1000000
set_option linter.unusedVariables false
set_option linter.unusedSimpArgs false

/-- How many spaces a text begins with. -/
def skipL : List UInt8 → Nat
  | [] => 0
  | c :: l => if c = 32 then skipL l + 1 else 0
theorem skipL_le : ∀ l : List UInt8, skipL l ≤ l.length
  | [] => Nat.le_refl _
  | c :: l => by
    have := skipL_le l
    unfold skipL
    split
    · simp; omega
    · omega
theorem skipL_at : ∀ (l : List UInt8) (h : skipL l < l.length), l[skipL l] ≠ 32
  | [], h => by cases h
  | c :: l, h => by
    by_cases hc : c = 32
    · have e : skipL (c :: l) = skipL l + 1 := by show (if c = 32 then skipL l + 1 else 0) = _; rw [if_pos hc]
      have h' : skipL l < l.length := by rw [e] at h; simpa using h
      have ih := skipL_at l h'
      intro hx
      apply ih
      rw [← hx]
      simp only [e, List.getElem_cons_succ]
    · have e : skipL (c :: l) = 0 := by show (if c = 32 then skipL l + 1 else 0) = _; rw [if_neg hc]
      simp only [e, List.getElem_cons_zero]
      exact hc
/-- Where the next byte stands that is no space. -/
def skip (s : List UInt8) (i : Nat) : Nat := i + skipL (s.drop i)
theorem skip_le {s : List UInt8} {i : Nat} (h : i ≤ s.length) : skip s i ≤ s.length := by
  unfold skip
  have h1 := skipL_le (s.drop i)
  rw [List.length_drop] at h1
  omega
theorem skip_ge (s : List UInt8) (i : Nat) : i ≤ skip s i := Nat.le_add_right _ _
theorem skip_step {s : List UInt8} {i : Nat} (h : i < s.length) (hs : s[i] = 32) : skip s (i + 1) = skip s i := by
  unfold skip
  rw [List.drop_eq_getElem_cons h, hs]
  show _ = i + (if (32 : UInt8) = 32 then skipL (s.drop (i + 1)) + 1 else 0)
  rw [if_pos rfl]; omega
theorem skip_stop {s : List UInt8} {i : Nat} (h : i < s.length) (hs : s[i] ≠ 32) : skip s i = i := by
  unfold skip
  rw [List.drop_eq_getElem_cons h]
  show i + (if s[i] = 32 then _ else 0) = i
  rw [if_neg hs]; rfl
theorem skip_end {s : List UInt8} {i : Nat} (h : s.length ≤ i) : skip s i = i := by
  unfold skip
  rw [List.drop_eq_nil_of_le h]; rfl
theorem skip_at {s : List UInt8} {i : Nat} (h : skip s i < s.length) : s[skip s i] ≠ 32 := by
  unfold skip at h ⊢
  have h2 := skipL_at (s.drop i) (by rw [List.length_drop]; omega)
  rw [List.getElem_drop] at h2
  exact h2
theorem skip_idem {s : List UInt8} {i : Nat} (h : i ≤ s.length) : skip s (skip s i) = skip s i := by
  rcases Nat.lt_or_ge (skip s i) s.length with h1 | h1
  · exact skip_stop h1 (skip_at h1)
  · exact skip_end h1

/-! ### The state -/
theorem own_keep {base n size : Nat} {e : TypeId} {v : Value} {xs : List Value} {w w' : World} (h : w.ownsRow base e size v n xs) (hh : ∀ k, base ≤ k → k < w.heap.size → w'.heap[k]? = w.heap[k]?) : w'.ownsRow base e size v n xs := by
  refine ⟨h.1, ?_⟩
  rcases h.2 with h1 | ⟨g', cap', cur, h1, h2, h3, h4⟩
  · exact .inl h1
  · have hlt : g' < w.heap.size := by
      rcases Nat.lt_or_ge g' w.heap.size with h5 | h5
      · exact h5
      · rw [Array.getElem?_eq_none h5] at h3; cases h3
    exact .inr ⟨g', cap', cur, h1, h2, (hh g' h2 hlt).trans h3, h4⟩
/-- What the reader's functions leave as it was: each block but the reader's own and the row's that it holds. -/
structure Fr (w0 w w' : World) : Prop where
  fr : ∀ k, k < w.heap.size → k ≠ w0.heap.size → (∀ v, w.cell? ⟨w0.heap.size, 2, none⟩ = some v → v.ownBlock ≠ some k) → w'.heap[k]? = w.heap[k]?
  row : ∀ v', w'.cell? ⟨w0.heap.size, 2, none⟩ = some v' → ∀ k, v'.ownBlock = some k → k < w.heap.size → ∃ v, w.cell? ⟨w0.heap.size, 2, none⟩ = some v ∧ v.ownBlock = some k
  size : w.heap.size ≤ w'.heap.size
theorem Fr.refl (w0 w : World) : Fr w0 w w := ⟨fun _ _ _ _ => rfl, fun v h k hk _ => ⟨v, h, hk⟩, Nat.le_refl _⟩
theorem Fr.trans {w0 a b d : World} (h : Fr w0 a b) (h' : Fr w0 b d) : Fr w0 a d := by
  refine ⟨fun k hk hc hv => ?_, fun v' hv' k hk hl => ?_, Nat.le_trans h.size h'.size⟩
  · refine (h'.fr k (Nat.lt_of_lt_of_le hk h.size) hc fun v hv2 hvk => ?_).trans (h.fr k hk hc hv)
    obtain ⟨v0, g1, g2⟩ := h.row v hv2 k hvk hk
    exact hv v0 g1 g2
  · obtain ⟨v, g1, g2⟩ := h'.row v' hv' k hk (Nat.lt_of_lt_of_le hl h.size)
    exact h.row v g1 k g2 hl
theorem Fr.of_kept {w0 w w' : World} (hk : Kept w0.heap.size w w') (hc : w'.cell? ⟨w0.heap.size, 2, none⟩ = w.cell? ⟨w0.heap.size, 2, none⟩) : Fr w0 w w' :=
  ⟨fun k hl hne _ => hk.block k hl hne, fun v' hv' k hkk _ => ⟨v', hc ▸ hv', hkk⟩, hk.size⟩
theorem Fr.of_below {w0 w w' : World} (hc : w0.heap.size < w.heap.size) (hb : Below w.heap.size w w') : Fr w0 w w' := Fr.of_kept (Kept.of hb) (hb.cell (p := ⟨w0.heap.size, 2, none⟩) hc)
theorem Fr.drewN {w0 a b : World} (h : Fr w0 a b) (n : Nat) : Fr w0 a (b.drewN n) := ⟨h.fr, h.row, h.size⟩
theorem Fr.drew {w0 a b : World} (h : Fr w0 a b) : Fr w0 a b.drew := ⟨h.fr, h.row, h.size⟩
/-- The reader at a place of a text, with the nodes read so far. -/
def Rd (w0 wb : World) (s : List UInt8) (w : World) (i : Nat) (out : List Nd) (f : Bool) : Prop :=
  ∃ v, Blk w w0.heap.size 55 #[tx s, .int .i64 (i : Int), v, .bool f] ∧ w.ownsRow (w0.heap.size + 1) 43 3 v out.length (out.flatMap ndCells) ∧ i ≤ s.length ∧ Below w0.heap.size w0 w ∧ Fr w0 wb w
section
variable {w0 wb w : World} {s : List UInt8} {i : Nat} {out : List Nd} {f : Bool}
theorem Rd.drewN (h : Rd w0 wb s w i out f) (n : Nat) : Rd w0 wb s (w.drewN n) i out f := by
  obtain ⟨v, a, b, c, d⟩ := h
  exact ⟨v, a, b, c, bl_drewN d.1 n, d.2.drewN n⟩
theorem Rd.drew (h : Rd w0 wb s w i out f) : Rd w0 wb s w.drew i out f := by
  obtain ⟨v, a, b, c, d⟩ := h
  exact ⟨v, a, b, c, bl_drew d.1, d.2.drew⟩
theorem Rd.le (h : Rd w0 wb s w i out f) : i ≤ s.length := h.choose_spec.2.2.1
theorem Rd.bel (h : Rd w0 wb s w i out f) : Below w0.heap.size w0 w := h.choose_spec.2.2.2.1
theorem Rd.frm (h : Rd w0 wb s w i out f) : Fr w0 wb w := h.choose_spec.2.2.2.2
theorem Rd.lt (h : Rd w0 wb s w i out f) : w0.heap.size < w.heap.size := h.choose_spec.1.lt
theorem Rd.alloc (h : Rd w0 wb s w i out f) (o : Obj) : Rd w0 wb s (w.alloc o) i out f := by
  obtain ⟨v, a, b, c, d⟩ := h
  exact ⟨v, a.alloc o, b.alloc o, c, bl_alloc d.1 o, d.2.trans (Fr.of_below a.lt (bl_alloc (Below.refl _ _) o))⟩
theorem Rd.setAt (h : Rd w0 wb s w i out f) {j : Nat} (hj : j ≤ s.length) : Rd w0 wb s (w.setCell ⟨w0.heap.size, 1, none⟩ (.int .i64 (j : Int))) j out f := by
  obtain ⟨v, a, b, c, d⟩ := h
  exact ⟨v, a.set_ 1 _, own_keep b (fun k hk _ => Below.heap_setCell w ⟨w0.heap.size, 1, none⟩ _ k (by simp; omega)), hj, bl_set d.1 (Nat.le_refl _) _, d.2.trans (Fr.of_kept (Kept.set _ _ _ _) ((a.set_ 1 _).cell 2 |>.trans (a.cell 2).symm))⟩
theorem Rd.setFail (h : Rd w0 wb s w i out f) : Rd w0 wb s (w.setCell ⟨w0.heap.size, 3, none⟩ (.bool true)) i out true := by
  obtain ⟨v, a, b, c, d⟩ := h
  exact ⟨v, a.set_ 3 _, own_keep b (fun k hk _ => Below.heap_setCell w ⟨w0.heap.size, 3, none⟩ _ k (by simp; omega)), c, bl_set d.1 (Nat.le_refl _) _, d.2.trans (Fr.of_kept (Kept.set _ _ _ _) ((a.set_ 3 _).cell 2 |>.trans (a.cell 2).symm))⟩
end
/-- The reader's place, in a world. -/
def atOf (c : Nat) (w : World) : Nat := (RowKit.intOf ((w.cell? ⟨c, 1, none⟩).getD (.int .i64 0))).toNat
theorem Rd.atOf {w0 wb w : World} {s : List UInt8} {i : Nat} {out : List Nd} {f : Bool} (h : Rd w0 wb s w i out f) : atOf w0.heap.size w = i := by
  obtain ⟨v, a, _⟩ := h
  unfold _root_.Go.Proofs.YtjgjgjkffoagoaaDoor.atOf
  rw [a.cell 1]
  simp [RowKit.intOf]
/-- The next byte, 0 at the end. -/
def nextB (s : List UInt8) (i : Nat) : Nat := (s[skip s i]?.getD 0).toNat
def SpaceEnd (w0 wb : World) (s : List UInt8) (i : Nat) (out : List Nd) (f : Bool) (e : Ending) (w' : World) : Prop := e = .returned (.int .u8 (nextB s i : Int)) ∧ Rd w0 wb s w' (skip s i) out f
theorem spaces_any (w0 wb w : World) (s : List UInt8) (hs : s.length ≤ 1000000) (i : Nat) (out : List Nd) (f : Bool) (h : Rd w0 wb s w i out f) :
    Calls Tryd.prog 25 #[.pointer (some ⟨w0.heap.size, 0, none⟩)] w (SpaceEnd w0 wb s i out f) := by
  have H := Lib.hid h
  have hil := h.le
  clear h
  go_enter Tryd.func25, Tryd.ntmps25
  go_wp2
  go_loopw [] (fun wr => ∃ k, Rd w0 wb s wr k out f ∧ skip s k = skip s i) (fun wr => s.length - atOf w0.heap.size wr)
  case atStart => exact ⟨i, H.out, rfl⟩
  case round =>
    obtain ⟨k, hr, hsk⟩ := hrel
    have HR := Lib.hid hr
    have HS := Lib.hid hsk
    have hme := hr.atOf
    obtain ⟨v, hb, hown, hkl, hbel⟩ := hr
    have b0 := hb.cell 0
    have b1 := hb.cell 1
    have f1 := hb.frozen 1
    clear hb hown hsk hbel
    by_cases hk : k < s.length
    · have c1 : decide ((k : Int) < (s.length : Int)) = true := decide_eq_true (by omega)
      have hsz : k < (⟨s.toArray⟩ : ByteArray).size := by simpa [ByteArray.size] using hk
      obtain ⟨x, hx⟩ : ∃ x : Nat, ((⟨s.toArray⟩ : ByteArray)[k]'hsz).toNat = x := ⟨_, rfl⟩
      have hxs : s[k].toNat = x := by rw [← hx]; rfl
      by_cases h32 : x = 32
      · have c2 : ((x : Int) == 32) = true := beq_iff_eq.2 (by omega)
        have hs32 : s[k] = 32 := by
          apply UInt8.toNat_inj.1
          rw [hxs, h32]; rfl
        have HN : Hid (∀ m, Rd w0 wb s ((wr.drewN m).setCell ⟨w0.heap.size, 1, none⟩ (.int .i64 ((k : Int) + 1))) (k + 1) out f ∧ skip s (k + 1) = skip s i) := Lib.hid fun m => ⟨by have := (HR.out.drewN m).setAt (j := k + 1) (by omega); simpa using this, (skip_step hk hs32).trans HS.out⟩
        clear hs32
        go_wp2
        go_quiet (fail)
        go_wp2
        case roundEnd =>
          have h9 := HN.out nq
          refine ⟨⟨k + 1, h9.1, h9.2⟩, ?_⟩
          rw [h9.1.atOf, HR.out.atOf]
          omega
      · have c2 : ((x : Int) == 32) = false := beq_eq_false_iff_ne.2 (by omega)
        have c3 : ((k : Int) == (s.length : Int)) = false := beq_eq_false_iff_ne.2 (by omega)
        have hsk : skip s i = k := by
          rw [← HS.out]
          refine skip_stop hk fun he => h32 ?_
          rw [← hxs, he]; rfl
        have HE : Hid (∀ w', Rd w0 wb s w' k out f → SpaceEnd w0 wb s i out f (.returned (.int .u8 (x : Int))) w') := Lib.hid fun w' hw' => ⟨by unfold nextB; rw [hsk, List.getElem?_eq_getElem hk]; show _ = Ending.returned (.int .u8 ((s[k].toNat : Nat) : Int)); rw [hxs], by rw [hsk]; exact hw'⟩
        clear hsk h32
        go_wp2
        go_quiet (fail)
        go_wp2
        go_quiet (fail)
        go_wp2
        go_quiet (fail)
        go_wp2
        go_ret
        exact HE.out _ (by repeat (first | exact HR.out | refine Rd.drewN ?_ _ | refine Rd.drew ?_))
    · have c1 : decide ((k : Int) < (s.length : Int)) = false := decide_eq_false (by omega)
      have c3 : ((k : Int) == (s.length : Int)) = true := beq_iff_eq.2 (by omega)
      have hsk : skip s i = k := by
        rw [← HS.out]
        exact skip_end (by omega)
      have HE : Hid (∀ w', Rd w0 wb s w' k out f → SpaceEnd w0 wb s i out f (.returned (.int .u8 0)) w') := Lib.hid fun w' hw' => ⟨by unfold nextB; rw [hsk, List.getElem?_eq_none (by omega)]; rfl, by rw [hsk]; exact hw'⟩
      clear hsk
      go_wp2
      go_quiet (fail)
      go_wp2
      go_quiet (fail)
      go_wp2
      go_ret
      exact HE.out _ (by repeat (first | exact HR.out | refine Rd.drewN ?_ _ | refine Rd.drew ?_))
/-- A text stands next. -/
def stands (s : List UInt8) (i : Nat) (t : List UInt8) : Bool := Lib.hasPrefix (s.drop (skip s i)) t
theorem stands_le {s : List UInt8} {i : Nat} {t : List UInt8} (hi : i ≤ s.length) (h : stands s i t = true) : skip s i + t.length ≤ s.length := by
  unfold stands Lib.hasPrefix at h
  have h1 := (List.isPrefixOf_iff_prefix.1 h).length_le
  rw [List.length_drop] at h1
  have := skip_le (s := s) hi
  omega
def TakeEnd (w0 wb : World) (s : List UInt8) (i : Nat) (out : List Nd) (f : Bool) (t : List UInt8) (e : Ending) (w' : World) : Prop :=
  e = .returned (.bool (stands s i t)) ∧ Rd w0 wb s w' (if stands s i t then skip s i + t.length else skip s i) out f
theorem prefix_is (s t : List UInt8) (k : Nat) (b : Bool) (h : Lib.hasPrefix (s.drop k) t = b) (w : World) :
    Calls Tryd.prog 82 #[.string ((⟨s.toArray⟩ : ByteArray).extract k s.length), tx t] w fun e w' => e = .returned (.bool b) ∧ w' = w := by
  rw [tail_of]
  refine (Tryd.strings_HasPrefix _ _ _).mono ?_
  rintro e w9 ⟨rfl, hw⟩
  exact ⟨by rw [← h], hw⟩
theorem take_any (t : List UInt8) (ht : t.length ≤ 1000) (w0 wb w : World) (s : List UInt8) (hs : s.length ≤ 1000000) (i : Nat) (out : List Nd) (f : Bool) (h : Rd w0 wb s w i out f) :
    Calls Tryd.prog 62 #[.pointer (some ⟨w0.heap.size, 0, none⟩), tx t] w (TakeEnd w0 wb s i out f t) := by
  have H := Lib.hid h
  have hil := h.le
  clear h
  go_enter Tryd.func62, Tryd.ntmps62
  go_wp2_with fail
  go_at_call 25
  refine (spaces_any w0 wb _ s hs i out f H.out).mono ?_
  rintro e w1 ⟨rfl, hr⟩
  have HR := Lib.hid hr
  obtain ⟨v, hb, hown, hkl, hbel⟩ := hr
  have b0 := hb.cell 0
  have b1 := hb.cell 1
  have f1 := hb.frozen 1
  clear hb hown hbel
  have g1 : (s.length < skip s i) = False := eq_false (by omega)
  obtain ⟨b, hbb⟩ : ∃ b, stands s i t = b := ⟨_, rfl⟩
  have HBB := Lib.hid hbb
  clear hbb
  cases b
  · have HE : Hid (∀ w', Rd w0 wb s w' (skip s i) out f → TakeEnd w0 wb s i out f t (.returned (.bool false)) w') := Lib.hid fun w' hw' => ⟨by rw [HBB.out], by rw [HBB.out]; exact hw'⟩
    go_wp2
    go_quiet ((go_at_call 82; exact Calls.quiet_of_same (prefix_is s t _ _ HBB.out _)))
    go_wp2
    go_ret
    exact HE.out _ (by repeat (first | exact HR.out | refine Rd.drewN ?_ _ | refine Rd.drew ?_))
  · have HLE := Lib.hid (stands_le hil HBB.out)
    have hle := HLE.out
    have HE : Hid (∀ w', Rd w0 wb s w' (skip s i) out f → TakeEnd w0 wb s i out f t (.returned (.bool true)) (w'.setCell ⟨w0.heap.size, 1, none⟩ (.int .i64 ((skip s i : Int) + (t.length : Int))))) := Lib.hid fun w' hw' => ⟨by rw [HBB.out], by rw [HBB.out]; have := hw'.setAt (j := skip s i + t.length) HLE.out; simpa using this⟩
    go_wp2
    go_quiet ((go_at_call 82; exact Calls.quiet_of_same (prefix_is s t _ _ HBB.out _)))
    go_wp2
    go_ret
    exact HE.out _ (by repeat (first | exact HR.out | refine Rd.drewN ?_ _ | refine Rd.drew ?_))
end Go.Proofs.YtjgjgjkffoagoaaDoor
