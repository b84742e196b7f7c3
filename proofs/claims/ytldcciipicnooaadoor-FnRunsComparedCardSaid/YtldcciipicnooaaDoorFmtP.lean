/-
  What is proved here: what spec.FormatPair and impl.FormatPair return: one and the same text, at any two ints. Condition of impl's: the table of powers of ten is laid.
-/
import Derived.Test.YtldcciipicnooaaDoorTxt
namespace Go.Proofs.YtldcciipicnooaaDoor
open Go.RowKit
open Go.Lib (itoa decDigits nDigits nDigits_le20 itoa_length_le)
set_option maxRecDepth 100000
set_option linter.unusedVariables false
set_option linter.unusedSimpArgs false

/-- Does a number lie between two? -/
def inR (a b n : Int) : Bool := decide (a ≤ n ∧ n ≤ b)
theorem inR_eq (a b n : Int) : inR a b n = (decide (a ≤ n) && decide (n ≤ b)) := by unfold inR; simp
theorem inR_of {a b n : Int} (h : a ≤ n ∧ n ≤ b) : inR a b n = true := decide_eq_true h
theorem inR_not {a b n : Int} (h : ¬(a ≤ n ∧ n ≤ b)) : inR a b n = false := decide_eq_false h

theorem spec_l01In (n a b : Int) (w : World) :
    Calls Tryd.prog 27 #[.int .i64 n, .int .i64 a, .int .i64 b] w fun e w' => e = .returned (.bool (inR a b n)) ∧ w' = w := by
  by_cases c : a ≤ n
  · have c0 : decide (a ≤ n) = true := decide_eq_true c
    go_enter Tryd.func27, Tryd.ntmps27
    go_wp2
    go_ret
    exact ⟨by rw [inR_eq]; simp [c], rfl⟩
  · have c0 : decide (a ≤ n) = false := decide_eq_false c
    go_enter Tryd.func27, Tryd.ntmps27
    go_wp2
    go_ret
    exact ⟨by rw [inR_not (fun h => by omega)]; rfl, rfl⟩

theorem impl_within (n a b : Int) (w : World) :
    Calls Tryd.prog 30 #[.int .i64 n, .int .i64 a, .int .i64 b] w fun e w' => e = .returned (.bool (inR a b n)) ∧ w' = w := by
  by_cases c : a ≤ n
  · have c0 : decide (a ≤ n) = true := decide_eq_true c
    go_enter Tryd.func30, Tryd.ntmps30
    go_wp2
    go_ret
    exact ⟨by rw [inR_eq]; simp [c], rfl⟩
  · have c0 : decide (a ≤ n) = false := decide_eq_false c
    go_enter Tryd.func30, Tryd.ntmps30
    go_wp2
    go_ret
    exact ⟨by rw [inR_not (fun h => by omega)]; rfl, rfl⟩

theorem cat (a b : List UInt8) : (⟨a.toArray⟩ : ByteArray) ++ (⟨b.toArray⟩ : ByteArray) = ⟨(a ++ b).toArray⟩ := by
  apply ByteArray.ext
  apply Array.toList_inj.1
  rw [ByteArray.toList_data_append]

/-- A number with its sign. -/
def sgn (n : Int) : List UInt8 := if n < 0 then itoa n else 43 :: itoa n
theorem sgn_length (n : Int) (h0 : -9223372036854775808 ≤ n) (h1 : n ≤ 9223372036854775807) : (sgn n).length ≤ 22 := by
  have := itoa_length_le n h0 h1
  unfold sgn
  split
  · omega
  · simp; omega

theorem impl_quantumOk (n : Int) (w : World) :
    Calls Tryd.prog 34 #[.int .i64 n] w fun e w' => e = .returned (.bool (inR (-1000000000) 1000000000 n)) ∧ w' = w := by
  go_enter Tryd.func34, Tryd.ntmps34
  go_wp2_with (first | (go_at_call 30; (with_reducible refine (impl_within _ _ _ _).mono ?_); rintro e w9 ⟨rfl, hw9⟩; have hw9x := hw9.symm; clear hw9; subst hw9x))
  go_ret
  exact ⟨rfl, rfl⟩

theorem spec_l10Signed (n : Int) (h0 : -9223372036854775808 ≤ n) (h1 : n ≤ 9223372036854775807) (w : World) :
    Calls Tryd.prog 33 #[.int .i64 n] w fun e w' => e = .returned (tx (sgn n)) ∧ Below w.heap.size w w' := by
  have hll := itoa_length_le n h0 h1
  have hs1 : (9223372036854775807 < 1 + (itoa n).length) = False := eq_false (by omega)
  by_cases c : n < 0
  · have c0 : decide (n < 0) = true := decide_eq_true c
    have HS : Hid (sgn n = itoa n) := Lib.hid (by unfold sgn; rw [if_pos c])
    go_enter Tryd.func33, Tryd.ntmps33
    go_wp2_with (first | (go_at_call 29; (with_reducible refine (specFormatInt n h0 h1 _).mono ?_); rintro e w1 ⟨rfl, hb1⟩))
    go_ret
    exact ⟨by rw [HS.out]; rfl, hb1⟩
  · have c0 : decide (n < 0) = false := decide_eq_false c
    have HS : Hid (sgn n = 43 :: itoa n) := Lib.hid (by unfold sgn; rw [if_neg c])
    go_enter Tryd.func33, Tryd.ntmps33
    go_wp2_with (first | (go_at_call 29; (with_reducible refine (specFormatInt n h0 h1 _).mono ?_); rintro e w1 ⟨rfl, hb1⟩))
    go_ret
    exact ⟨by rw [HS.out]; rfl, hb1⟩

theorem impl_signedText (n : Int) (h0 : -9223372036854775808 ≤ n) (h1 : n ≤ 9223372036854775807) (w : World) (htab : Lib.TabIs Tryd.prog w "internal/strconv.uint64pow10" .u64 Lib.pow10Tab) :
    Calls Tryd.prog 35 #[.int .i64 n] w fun e w' => e = .returned (tx (sgn n)) ∧ Below w.heap.size w w' := by
  have hll := itoa_length_le n h0 h1
  have hs1 : (9223372036854775807 < 1 + (itoa n).length) = False := eq_false (by omega)
  by_cases c : n < 0
  · have c0 : decide (n < 0) = true := decide_eq_true c
    have HS : Hid (sgn n = itoa n) := Lib.hid (by unfold sgn; rw [if_pos c])
    go_enter Tryd.func35, Tryd.ntmps35
    go_wp2_with (first | (go_at_call 32; (with_reducible refine (implFormatInt n h0 h1 _ htab).mono ?_); rintro e w1 ⟨rfl, hb1⟩))
    go_ret
    exact ⟨by rw [HS.out]; rfl, hb1⟩
  · have c0 : decide (n < 0) = false := decide_eq_false c
    have HS : Hid (sgn n = 43 :: itoa n) := Lib.hid (by unfold sgn; rw [if_neg c])
    go_enter Tryd.func35, Tryd.ntmps35
    go_wp2_with (first | (go_at_call 32; (with_reducible refine (implFormatInt n h0 h1 _ htab).mono ?_); rintro e w1 ⟨rfl, hb1⟩))
    go_ret
    exact ⟨by rw [HS.out]; rfl, hb1⟩

/-- The text of a pair. -/
def pairTx (re im : Int) : List UInt8 := if (-1000000000 ≤ re ∧ re ≤ 1000000000) ∧ (-1000000000 ≤ im ∧ im ≤ 1000000000) then sgn re ++ sgn im ++ [105] else []


theorem spec_FormatPair (re im : Int) (h0 : -9223372036854775808 ≤ re) (h1 : re ≤ 9223372036854775807) (g0 : -9223372036854775808 ≤ im) (g1 : im ≤ 9223372036854775807) (w : World) :
    Calls Tryd.prog 12 #[.int .i64 re, .int .i64 im] w fun e w' => e = .returned (tx (pairTx re im)) ∧ Below w.heap.size w w' := by
  have hl1 := sgn_length re h0 h1
  have hl2 := sgn_length im g0 g1
  have hs1 : (9223372036854775807 < (sgn re).length + (sgn im).length) = False := eq_false (by omega)
  have hs2 : (9223372036854775807 < (sgn re).length + (sgn im).length + 1) = False := eq_false (by omega)
  have HP : Hid (pairTx re im = if (-1000000000 ≤ re ∧ re ≤ 1000000000) ∧ (-1000000000 ≤ im ∧ im ≤ 1000000000) then sgn re ++ sgn im ++ [105] else []) := Lib.hid rfl
  by_cases c : -1000000000 ≤ re ∧ re ≤ 1000000000
  · have c0 := inR_of c
    by_cases d : -1000000000 ≤ im ∧ im ≤ 1000000000
    · have d0 := inR_of d
      have HC := Lib.hid c
      have HD := Lib.hid d
      clear c d
      go_enter Tryd.func12, Tryd.ntmps12
      go_wp2_with (first | (go_at_call 27; (with_reducible refine (spec_l01In _ _ _ _).mono ?_); rintro e w9 ⟨rfl, hw9⟩; have hw9x := hw9.symm; clear hw9; subst hw9x) | (go_at_call 33; first | ((with_reducible refine (spec_l10Signed re h0 h1 _).mono ?_); rintro e w1 ⟨rfl, hb1⟩) | ((with_reducible refine (spec_l10Signed im g0 g1 _).mono ?_); rintro e w2 ⟨rfl, hb2⟩)))
      go_ret
      refine ⟨?_, hb1.trans ?_⟩
      · rw [HP.out, if_pos ⟨HC.out, HD.out⟩]
        show Ending.returned (Value.string (((⟨(sgn re).toArray⟩ : ByteArray) ++ (⟨(sgn im).toArray⟩ : ByteArray)) ++ (⟨[105].toArray⟩ : ByteArray))) = _
        rw [cat, cat]
      · exact Joins.below_le hb2 hb1.size
    · have d0 := inR_not d
      have HD := Lib.hid d
      clear c d
      go_enter Tryd.func12, Tryd.ntmps12
      go_wp2_with (first | (go_at_call 27; (with_reducible refine (spec_l01In _ _ _ _).mono ?_); rintro e w9 ⟨rfl, hw9⟩; have hw9x := hw9.symm; clear hw9; subst hw9x) | (go_at_call 33; first | ((with_reducible refine (spec_l10Signed re h0 h1 _).mono ?_); rintro e w1 ⟨rfl, hb1⟩) | ((with_reducible refine (spec_l10Signed im g0 g1 _).mono ?_); rintro e w2 ⟨rfl, hb2⟩)))
      go_ret
      exact ⟨by rw [HP.out, if_neg (fun h => HD.out h.2)]; rfl, Below.refl _ _⟩
  · have c0 := inR_not c
    have HD := Lib.hid c
    clear c
    go_enter Tryd.func12, Tryd.ntmps12
    go_wp2_with (first | (go_at_call 27; (with_reducible refine (spec_l01In _ _ _ _).mono ?_); rintro e w9 ⟨rfl, hw9⟩; have hw9x := hw9.symm; clear hw9; subst hw9x) | (go_at_call 33; first | ((with_reducible refine (spec_l10Signed re h0 h1 _).mono ?_); rintro e w1 ⟨rfl, hb1⟩) | ((with_reducible refine (spec_l10Signed im g0 g1 _).mono ?_); rintro e w2 ⟨rfl, hb2⟩)))
    go_ret
    exact ⟨by rw [HP.out, if_neg (fun h => HD.out h.1)]; rfl, Below.refl _ _⟩

theorem tab_on {w w' : World} (h : Lib.TabIs Tryd.prog w "internal/strconv.uint64pow10" .u64 Lib.pow10Tab) (hb : Below w.heap.size w w') : Lib.TabIs Tryd.prog w' "internal/strconv.uint64pow10" .u64 Lib.pow10Tab :=
  Joins.tab_stays (g := 4) (by kernel_rfl) h hb (Nat.le_refl _)

theorem impl_FormatPair (re im : Int) (h0 : -9223372036854775808 ≤ re) (h1 : re ≤ 9223372036854775807) (g0 : -9223372036854775808 ≤ im) (g1 : im ≤ 9223372036854775807) (w : World) (htab : Lib.TabIs Tryd.prog w "internal/strconv.uint64pow10" .u64 Lib.pow10Tab) :
    Calls Tryd.prog 13 #[.int .i64 re, .int .i64 im] w fun e w' => e = .returned (tx (pairTx re im)) ∧ Below w.heap.size w w' := by
  have hl1 := sgn_length re h0 h1
  have hl2 := sgn_length im g0 g1
  have hs1 : (9223372036854775807 < (sgn re).length + (sgn im).length) = False := eq_false (by omega)
  have hs2 : (9223372036854775807 < (sgn re).length + (sgn im).length + 1) = False := eq_false (by omega)
  have HP : Hid (pairTx re im = if (-1000000000 ≤ re ∧ re ≤ 1000000000) ∧ (-1000000000 ≤ im ∧ im ≤ 1000000000) then sgn re ++ sgn im ++ [105] else []) := Lib.hid rfl
  by_cases c : -1000000000 ≤ re ∧ re ≤ 1000000000
  · have c0 := inR_of c
    by_cases d : -1000000000 ≤ im ∧ im ≤ 1000000000
    · have d0 := inR_of d
      have HC := Lib.hid c
      have HD := Lib.hid d
      clear c d
      go_enter Tryd.func13, Tryd.ntmps13
      go_wp2_with (first | (go_at_call 34; (with_reducible refine (impl_quantumOk _ _).mono ?_); rintro e w9 ⟨rfl, hw9⟩; have hw9x := hw9.symm; clear hw9; subst hw9x) | (go_at_call 35; first | ((with_reducible refine (impl_signedText re h0 h1 _ htab).mono ?_); rintro e w1 ⟨rfl, hb1⟩) | ((with_reducible refine (impl_signedText im g0 g1 _ (tab_on htab hb1)).mono ?_); rintro e w2 ⟨rfl, hb2⟩)))
      go_ret
      refine ⟨?_, hb1.trans ?_⟩
      · rw [HP.out, if_pos ⟨HC.out, HD.out⟩]
        show Ending.returned (Value.string (((⟨(sgn re).toArray⟩ : ByteArray) ++ (⟨(sgn im).toArray⟩ : ByteArray)) ++ (⟨[105].toArray⟩ : ByteArray))) = _
        rw [cat, cat]
      · exact Joins.below_le hb2 hb1.size
    · have d0 := inR_not d
      have HD := Lib.hid d
      clear c d
      go_enter Tryd.func13, Tryd.ntmps13
      go_wp2_with (first | (go_at_call 34; (with_reducible refine (impl_quantumOk _ _).mono ?_); rintro e w9 ⟨rfl, hw9⟩; have hw9x := hw9.symm; clear hw9; subst hw9x) | (go_at_call 35; first | ((with_reducible refine (impl_signedText re h0 h1 _ htab).mono ?_); rintro e w1 ⟨rfl, hb1⟩) | ((with_reducible refine (impl_signedText im g0 g1 _ (tab_on htab hb1)).mono ?_); rintro e w2 ⟨rfl, hb2⟩)))
      go_ret
      exact ⟨by rw [HP.out, if_neg (fun h => HD.out h.2)]; rfl, Below.refl _ _⟩
  · have c0 := inR_not c
    have HD := Lib.hid c
    clear c
    go_enter Tryd.func13, Tryd.ntmps13
    go_wp2_with (first | (go_at_call 34; (with_reducible refine (impl_quantumOk _ _).mono ?_); rintro e w9 ⟨rfl, hw9⟩; have hw9x := hw9.symm; clear hw9; subst hw9x) | (go_at_call 35; first | ((with_reducible refine (impl_signedText re h0 h1 _ htab).mono ?_); rintro e w1 ⟨rfl, hb1⟩) | ((with_reducible refine (impl_signedText im g0 g1 _ (tab_on htab hb1)).mono ?_); rintro e w2 ⟨rfl, hb2⟩)))
    go_ret
    exact ⟨by rw [HP.out, if_neg (fun h => HD.out h.1)]; rfl, Below.refl _ _⟩
end Go.Proofs.YtldcciipicnooaaDoor
