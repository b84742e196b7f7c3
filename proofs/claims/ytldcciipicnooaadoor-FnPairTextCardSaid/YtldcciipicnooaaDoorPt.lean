/-
  What is proved here: what impl.ParsePair returns: the pair of which the text is the text, or none. Conditions: the table of powers of ten and the decoder's two tables are laid; the text has fewer than 4294967281 bytes.
-/
import Derived.Test.YtldcciipicnooaaDoorLs
namespace Go.Proofs.YtldcciipicnooaaDoor
open Go.RowKit
open Go.Lib (itoa decDigits nDigits nDigits_le20 itoa_length_le)
set_option maxRecDepth 100000
set_option linter.unusedVariables false
set_option linter.unusedSimpArgs false

theorem trim_le (l p : List UInt8) : (Lib.trimPrefix l p).length ≤ l.length := by
  unfold Lib.trimPrefix
  split
  · simp
  · exact Nat.le_refl _

set_option maxHeartbeats 2000000 in
theorem impl_ParsePair (l : List UInt8) (hl : l.length ≤ 4294967280) (w : World) (htab : Lib.TabIs Tryd.prog w "internal/strconv.uint64pow10" .u64 Lib.pow10Tab) (hT : U8 w) :
    Calls Tryd.prog 16 #[tx l] w (PpEnd l w) := by
  by_cases h5 : l.length < 5
  · have c0 : decide ((l.length : Int) < 5) = true := decide_eq_true (by omega)
    go_enter Tryd.func16, Tryd.ntmps16
    go_wp2
    refine bodyPost_ret (v := .tuple #[.int .i64 0, .int .i64 0, .bool false]) (by simp [results, Tryd.results16, go_sem]) rfl ⟨0, 0, false, rfl, pp_short l h5, Below.refl _ _⟩
  have c0 : decide ((l.length : Int) < 5) = false := decide_eq_false (by omega)
  have HT := Lib.hid hT
  clear hT
  go_enter Tryd.func16, Tryd.ntmps16
  go_wp2_with fail
  go_at_call 39
  refine (lastAny l (by omega) hl _ HT.out).mono ?_
  rintro e w0 ⟨k, rfl, hk, hb0⟩
  have hk0 := hk.1
  have HK := Lib.hid hk
  have HB0 := Lib.hid hb0
  clear hk hb0
  by_cases hk2 : k < 2
  · have c1 : decide (k < 2) = true := decide_eq_true hk2
    go_wp2
    refine bodyPost_ret (v := .tuple #[.int .i64 0, .int .i64 0, .bool false]) (by simp [results, Tryd.results16, go_sem]) rfl ⟨0, 0, false, rfl, pq_no_place l k HK.out hk2, HB0.out⟩
  have c1 : decide (k < 2) = false := decide_eq_false hk2
  obtain ⟨m, rfl⟩ : ∃ m : Nat, k = m := ⟨k.toNat, by omega⟩
  have hz1 : (l.length < m) = False := eq_false (by omega)
  have hz4 : m ≤ l.length - 1 := by omega
  go_wp2_with (first | (go_at_call 41; (try rw [head_of]); (try rw [mid_of]); (with_reducible refine (Tryd.strings_TrimPrefix _ _ _).mono ?_); rintro e w9 ⟨rfl, hw9⟩; have hw9x := hw9.symm; clear hw9; subst hw9x; simp only [List.toList_toArray]))
  go_at_call 40
  have hq1 := trim_le (l.take m) [43]
  refine (impl_parseInt (Lib.trimPrefix (l.take m) [43]) (by simp at hq1; omega) _ (tab_on htab HB0.out)).mono ?_
  rintro e w1 ⟨re, f, rfl, hf, hb1⟩
  have hf1 := hf.range
  unfold InQ at hf1
  have HF := Lib.hid hf
  have HB1 := Lib.hid (on_call HB0.out hb1)
  clear hf hb1
  go_wp2_with (first | (go_at_call 41; (try rw [head_of]); (try rw [mid_of]); (with_reducible refine (Tryd.strings_TrimPrefix _ _ _).mono ?_); rintro e w9 ⟨rfl, hw9⟩; have hw9x := hw9.symm; clear hw9; subst hw9x; simp only [List.toList_toArray]))
  go_at_call 40
  have hq2 := trim_le ((l.drop m).take (l.length - 1 - m)) [43]
  refine (impl_parseInt (Lib.trimPrefix ((l.drop m).take (l.length - 1 - m)) [43]) (by simp at hq2; omega) _ (tab_on htab HB1.out)).mono ?_
  rintro e w2 ⟨im, g, rfl, hg, hb2⟩
  have hg1 := hg.range
  unfold InQ at hg1
  have HG := Lib.hid hg
  have HB := Lib.hid (on_call HB1.out hb2)
  clear hg hb2
  cases f
  · go_wp2
    refine bodyPost_ret (v := .tuple #[.int .i64 0, .int .i64 0, .bool false]) (by simp [results, Tryd.results16, go_sem]) rfl ⟨0, 0, false, rfl, pq_no l m HK.out re im false g HF.out HG.out (Or.inl rfl), HB.out⟩
  · cases g
    · go_wp2
      refine bodyPost_ret (v := .tuple #[.int .i64 0, .int .i64 0, .bool false]) (by simp [results, Tryd.results16, go_sem]) rfl ⟨0, 0, false, rfl, pq_no l m HK.out re im true false HF.out HG.out (Or.inr (Or.inl rfl)), HB.out⟩
    · have hpl := pairTx_length re im (by omega) (by omega) (by omega) (by omega)
      by_cases hsame : pairTx re im = l
      · have HE : Hid (PpR l re im true) := Lib.hid (pp_yes l re im hf1 hg1 hsame)
        have c9 : (pairTx re im == l) = true := beq_iff_eq.2 hsame
        clear hsame
        go_wp2_with (first | (go_at_call 13; (with_reducible refine (impl_FormatPair re im (by omega) (by omega) (by omega) (by omega) _ (tab_on htab HB.out)).mono ?_); rintro e w3 ⟨rfl, hb3⟩))
        refine bodyPost_ret (v := .tuple #[.int .i64 re, .int .i64 im, .bool true]) (by simp [results, Tryd.results16, go_sem]) rfl ⟨re, im, true, rfl, HE.out, on_call HB.out hb3⟩
      · have HE : Hid (PpR l 0 0 false) := Lib.hid (pq_no l m HK.out re im true true HF.out HG.out (Or.inr (Or.inr hsame)))
        have c9 : (pairTx re im == l) = false := beq_eq_false_iff_ne.2 hsame
        clear hsame
        go_wp2_with (first | (go_at_call 13; (with_reducible refine (impl_FormatPair re im (by omega) (by omega) (by omega) (by omega) _ (tab_on htab HB.out)).mono ?_); rintro e w3 ⟨rfl, hb3⟩))
        refine bodyPost_ret (v := .tuple #[.int .i64 0, .int .i64 0, .bool false]) (by simp [results, Tryd.results16, go_sem]) rfl ⟨0, 0, false, rfl, HE.out, on_call HB.out hb3⟩
end Go.Proofs.YtldcciipicnooaaDoor
