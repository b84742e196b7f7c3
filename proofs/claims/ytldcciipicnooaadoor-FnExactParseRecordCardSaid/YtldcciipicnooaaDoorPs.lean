/-
  What is proved here: what spec.ParsePair returns: the pair of which the text is the text, or none. No condition.
-/
import Derived.Test.YtldcciipicnooaaDoorPq
import Derived.Laws.DeepStrings4
namespace Go.Proofs.YtldcciipicnooaaDoor
open Go.RowKit
open Go.Lib (itoa decDigits nDigits nDigits_le20 itoa_length_le)
set_option maxRecDepth 100000
set_option linter.unusedVariables false
set_option linter.unusedSimpArgs false

theorem slice_lh (w : World) (l : List UInt8) (i j : Int) (a b : Nat) (hi : i = a) (hj : j = b) (hab : a ≤ b) (hb : b ≤ l.length) :
    (Instr.slice 9 (tx l) (some (.int .i64 i)) (some (.int .i64 j)) none).run Tryd.prog w = .ok (tx ((l.drop a).take (b - a))) w := by
  subst hi hj
  have hs : (⟨l.toArray⟩ : ByteArray).size = l.length := by simp [ByteArray.size]
  rw [run_slice_string_if w 9 ⟨l.toArray⟩ .i64 .i64 a b Tryd.underlying9, if_pos (by rw [hs]; omega), if_pos (by omega), Lib.extract_eq]
  rfl

/-- What a call of ParsePair ends with. -/
def PpEnd (l : List UInt8) (w : World) (e : Ending) (w' : World) : Prop :=
  ∃ a b ok, e = .returned (.tuple #[.int .i64 a, .int .i64 b, .bool ok]) ∧ PpR l a b ok ∧ Below w.heap.size w w'

/-- The loop's relation. -/
def PpRel (l : List UInt8) (w : World) (v : Value) (wr : World) : Prop :=
  ∃ k : Nat, v = .int .i64 k ∧ 1 ≤ k ∧ k ≤ l.length ∧ (∀ i (hi : i < l.length), 1 ≤ i → i < k → ¬IsSg l[i]) ∧ wr = w

theorem pp_start (l : List UInt8) (w : World) (h : 1 ≤ l.length) : PpRel l w (.int .i64 1) w := ⟨1, rfl, Nat.le_refl _, h, fun i _ a b => by omega, rfl⟩
theorem pp_round (l : List UInt8) (w : World) (k : Nat) (h1 : 1 ≤ k) (hlt : k < l.length) (hno : ∀ i (hi : i < l.length), 1 ≤ i → i < k → ¬IsSg l[i]) (hs : ¬IsSg l[k]) :
    PpRel l w (.int .i64 ((k : Int) + 1)) w ∧ l.length - (RowKit.intOf (.int .i64 ((k : Int) + 1))).toNat < l.length - (RowKit.intOf (.int .i64 (k : Int))).toNat := by
  refine ⟨⟨k + 1, by simp, by omega, by omega, fun i hi a b => ?_, rfl⟩, by simp [RowKit.intOf]; omega⟩
  by_cases e : i = k
  · subst e; exact hs
  · exact hno i hi a (by omega)

theorem mid_of (l : List UInt8) (k : Nat) : (⟨l.toArray⟩ : ByteArray).extract k (l.length - 1) = ⟨((l.drop k).take (l.length - 1 - k)).toArray⟩ := by
  rw [Lib.extract_eq]
theorem pairTx_length (re im : Int) (h0 : -9223372036854775808 ≤ re) (h1 : re ≤ 9223372036854775807) (g0 : -9223372036854775808 ≤ im) (g1 : im ≤ 9223372036854775807) : (pairTx re im).length ≤ 45 := by
  have := sgn_length re h0 h1
  have := sgn_length im g0 g1
  unfold pairTx
  split
  · simp; omega
  · simp

set_option maxHeartbeats 2000000 in
theorem spec_ParsePair (l : List UInt8) (hl : l.length ≤ 9223372036854775807) (w : World) :
    Calls Tryd.prog 26 #[tx l] w (PpEnd l w) := by
  by_cases h5 : l.length < 5
  · have c0 : decide ((l.length : Int) < 5) = true := decide_eq_true (by omega)
    go_enter Tryd.func26, Tryd.ntmps26
    go_wp2
    refine bodyPost_ret (v := .tuple #[.int .i64 0, .int .i64 0, .bool false]) (by simp [results, Tryd.results26, go_sem]) rfl ⟨0, 0, false, rfl, pp_short l h5, Below.refl _ _⟩
  have c0 : decide ((l.length : Int) < 5) = false := decide_eq_false (by omega)
  by_cases h30 : 30 < l.length
  · have c1 : decide (30 < (l.length : Int)) = true := decide_eq_true (by omega)
    go_enter Tryd.func26, Tryd.ntmps26
    go_wp2
    refine bodyPost_ret (v := .tuple #[.int .i64 0, .int .i64 0, .bool false]) (by simp [results, Tryd.results26, go_sem]) rfl ⟨0, 0, false, rfl, pp_long l h30, Below.refl _ _⟩
  have c1 : decide (30 < (l.length : Int)) = false := decide_eq_false (by omega)
  go_enter Tryd.func26, Tryd.ntmps26
  go_wp2
  go_loopw [5] (fun v wr => PpRel l w v wr) (fun v _ => l.length - (RowKit.intOf v).toNat)
  case atStart => exact pp_start l w (by omega)
  case round =>
    obtain ⟨k, rfl, hk1, hk, hno, rfl⟩ := hrel
    have HN := Lib.hid hno
    clear hno
    by_cases hlt : k < l.length
    · have cl : decide ((k : Int) < (l.length : Int)) = true := decide_eq_true (by omega)
      have cl2 : decide ((l.length : Int) ≤ (k : Int)) = false := decide_eq_false (by omega)
      have hsz : k < (⟨l.toArray⟩ : ByteArray).size := by simpa [ByteArray.size] using hlt
      obtain ⟨x, hx⟩ : ∃ x : Nat, ((⟨l.toArray⟩ : ByteArray)[k]'hsz).toNat = x := ⟨_, rfl⟩
      have HX : Hid (l[k].toNat = x) := Lib.hid (by rw [← hx]; rfl)
      by_cases hs : x = 43 ∨ x = 45
      · have hz1 : (l.length < k) = False := eq_false (by omega)
        have hz4 : k ≤ l.length - 1 := by omega
        have HA : Hid (∀ hi : k < l.length, IsSg l[k]) := Lib.hid (fun _ => by rw [IsSg, HX.out]; exact hs)
        rcases hs with h43 | h45
        · have c2 : ((x : Int) != 43) = false := bne_eq_false_iff_eq.2 (by omega)
          have H43 := Lib.hid h43
          clear h43
          go_wp2_with fail
          go_at_call 53
          rw [head_of]
          refine (spec_l10Number (l.take k) (by simp; omega) _).mono ?_
          rintro e w1 ⟨re, f, rfl, hf, hb1⟩
          have hf1 := hf.1
          have HF := Lib.hid hf
          clear hf
          go_wp2_with fail
          go_at_call 53
          rw [mid_of]
          refine (spec_l10Number ((l.drop k).take (l.length - 1 - k)) (by simp; omega) _).mono ?_
          rintro e w2 ⟨im, g, rfl, hg, hb2⟩
          have hg1 := hg.1
          have HG := Lib.hid hg
          clear hg
          have HB := Lib.hid (on_call hb1 hb2)
          cases f
          · go_wp2
            refine bodyPost_ret (v := .tuple #[.int .i64 0, .int .i64 0, .bool false]) (by simp [results, Tryd.results26, go_sem]) rfl ⟨0, 0, false, rfl, pp_no l k hk1 hk HN.out HA.out re im false g HF.out HG.out (Or.inl rfl), HB.out⟩
          · cases g
            · go_wp2
              refine bodyPost_ret (v := .tuple #[.int .i64 0, .int .i64 0, .bool false]) (by simp [results, Tryd.results26, go_sem]) rfl ⟨0, 0, false, rfl, pp_no l k hk1 hk HN.out HA.out re im true false HF.out HG.out (Or.inr (Or.inl rfl)), HB.out⟩
            · have hpl := pairTx_length re im (by omega) (by omega) (by omega) (by omega)
              by_cases hsame : pairTx re im = l
              · have HE : Hid (PpR l re im true) := Lib.hid (pp_yes l re im hf1 hg1 hsame)
                have c9 : (pairTx re im == l) = true := beq_iff_eq.2 hsame
                clear hsame
                go_wp2_with (first | (go_at_call 12; (with_reducible refine (spec_FormatPair re im (by omega) (by omega) (by omega) (by omega) _).mono ?_); rintro e w3 ⟨rfl, hb3⟩))
                refine bodyPost_ret (v := .tuple #[.int .i64 re, .int .i64 im, .bool true]) (by simp [results, Tryd.results26, go_sem]) rfl ⟨re, im, true, rfl, HE.out, on_call HB.out hb3⟩
              · have HE : Hid (PpR l 0 0 false) := Lib.hid (pp_no l k hk1 hk HN.out HA.out re im true true HF.out HG.out (Or.inr (Or.inr hsame)))
                have c9 : (pairTx re im == l) = false := beq_eq_false_iff_ne.2 hsame
                clear hsame
                go_wp2_with (first | (go_at_call 12; (with_reducible refine (spec_FormatPair re im (by omega) (by omega) (by omega) (by omega) _).mono ?_); rintro e w3 ⟨rfl, hb3⟩))
                refine bodyPost_ret (v := .tuple #[.int .i64 0, .int .i64 0, .bool false]) (by simp [results, Tryd.results26, go_sem]) rfl ⟨0, 0, false, rfl, HE.out, on_call HB.out hb3⟩
        · have c2 : ((x : Int) != 43) = true := bne_iff_ne.2 (by omega)
          have c3 : ((x : Int) != 45) = false := bne_eq_false_iff_eq.2 (by omega)
          have H45 := Lib.hid h45
          clear h45
          go_wp2_with fail
          go_at_call 53
          rw [head_of]
          refine (spec_l10Number (l.take k) (by simp; omega) _).mono ?_
          rintro e w1 ⟨re, f, rfl, hf, hb1⟩
          have hf1 := hf.1
          have HF := Lib.hid hf
          clear hf
          go_wp2_with fail
          go_at_call 53
          rw [mid_of]
          refine (spec_l10Number ((l.drop k).take (l.length - 1 - k)) (by simp; omega) _).mono ?_
          rintro e w2 ⟨im, g, rfl, hg, hb2⟩
          have hg1 := hg.1
          have HG := Lib.hid hg
          clear hg
          have HB := Lib.hid (on_call hb1 hb2)
          cases f
          · go_wp2
            refine bodyPost_ret (v := .tuple #[.int .i64 0, .int .i64 0, .bool false]) (by simp [results, Tryd.results26, go_sem]) rfl ⟨0, 0, false, rfl, pp_no l k hk1 hk HN.out HA.out re im false g HF.out HG.out (Or.inl rfl), HB.out⟩
          · cases g
            · go_wp2
              refine bodyPost_ret (v := .tuple #[.int .i64 0, .int .i64 0, .bool false]) (by simp [results, Tryd.results26, go_sem]) rfl ⟨0, 0, false, rfl, pp_no l k hk1 hk HN.out HA.out re im true false HF.out HG.out (Or.inr (Or.inl rfl)), HB.out⟩
            · have hpl := pairTx_length re im (by omega) (by omega) (by omega) (by omega)
              by_cases hsame : pairTx re im = l
              · have HE : Hid (PpR l re im true) := Lib.hid (pp_yes l re im hf1 hg1 hsame)
                have c9 : (pairTx re im == l) = true := beq_iff_eq.2 hsame
                clear hsame
                go_wp2_with (first | (go_at_call 12; (with_reducible refine (spec_FormatPair re im (by omega) (by omega) (by omega) (by omega) _).mono ?_); rintro e w3 ⟨rfl, hb3⟩))
                refine bodyPost_ret (v := .tuple #[.int .i64 re, .int .i64 im, .bool true]) (by simp [results, Tryd.results26, go_sem]) rfl ⟨re, im, true, rfl, HE.out, on_call HB.out hb3⟩
              · have HE : Hid (PpR l 0 0 false) := Lib.hid (pp_no l k hk1 hk HN.out HA.out re im true true HF.out HG.out (Or.inr (Or.inr hsame)))
                have c9 : (pairTx re im == l) = false := beq_eq_false_iff_ne.2 hsame
                clear hsame
                go_wp2_with (first | (go_at_call 12; (with_reducible refine (spec_FormatPair re im (by omega) (by omega) (by omega) (by omega) _).mono ?_); rintro e w3 ⟨rfl, hb3⟩))
                refine bodyPost_ret (v := .tuple #[.int .i64 0, .int .i64 0, .bool false]) (by simp [results, Tryd.results26, go_sem]) rfl ⟨0, 0, false, rfl, HE.out, on_call HB.out hb3⟩
      · have c2 : ((x : Int) != 43) = true := bne_iff_ne.2 (by omega)
        have c3 : ((x : Int) != 45) = true := bne_iff_ne.2 (by omega)
        have HR := Lib.hid (pp_round l wr k hk1 hlt HN.out (by rw [IsSg, HX.out]; exact hs))
        go_wp2
        case roundEnd => exact HR.out
    · obtain rfl : k = l.length := by omega
      have cl : decide ((l.length : Int) < (l.length : Int)) = false := decide_eq_false (by omega)
      have cl2 : decide ((l.length : Int) ≤ (l.length : Int)) = true := decide_eq_true (by omega)
      have HE : Hid (PpR l 0 0 false) := Lib.hid (pp_no_place l l.length hk1 rfl HN.out)
      go_wp2
      refine bodyPost_ret (v := .tuple #[.int .i64 0, .int .i64 0, .bool false]) (by simp [results, Tryd.results26, go_sem]) rfl ⟨0, 0, false, rfl, HE.out, Below.refl _ _⟩
end Go.Proofs.YtldcciipicnooaaDoor
