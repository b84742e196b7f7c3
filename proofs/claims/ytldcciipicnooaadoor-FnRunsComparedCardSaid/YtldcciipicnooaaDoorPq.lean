/-
  What is proved here: what spec.l10Number, impl.parseInt, spec.ParsePair and impl.ParsePair return (strings.LastIndexAny by its contract). Condition of impl's: the table of powers of ten is laid.
-/
import Derived.Test.YtldcciipicnooaaDoorPp
import Derived.Test.YtldcciipicnooaaDoorPu2
import Derived.Test.YtldcciipicnooaaDoorFmtR
namespace Go.Proofs.YtldcciipicnooaaDoor
open Go.RowKit
open Go.Lib (itoa decDigits nDigits nDigits_le20 itoa_length_le)
set_option maxRecDepth 100000
set_option linter.unusedVariables false
set_option linter.unusedSimpArgs false

theorem tail_of (l : List UInt8) (k : Nat) : (⟨l.toArray⟩ : ByteArray).extract k l.length = ⟨(l.drop k).toArray⟩ := by
  rw [Lib.extract_eq]; simp only [List.take_of_length_le, List.length_drop, Nat.le_refl]
theorem head_of (l : List UInt8) (k : Nat) : (⟨l.toArray⟩ : ByteArray).extract 0 k = ⟨(l.take k).toArray⟩ := by
  rw [Lib.extract_eq]; simp

/-- What a call of l10Number ends with. -/
def NumEnd (t : List UInt8) (w : World) (e : Ending) (w' : World) : Prop :=
  ∃ r ok, e = .returned (.tuple #[.int .i64 r, .bool ok]) ∧ NumR t r ok ∧ Below w.heap.size w w'

theorem spec_l10Number (t : List UInt8) (hl : t.length ≤ 9223372036854775807) (w : World) :
    Calls Tryd.prog 53 #[tx t] w (NumEnd t w) := by
  by_cases h2 : t.length < 2
  · have c0 : decide ((t.length : Int) < 2) = true := decide_eq_true (by omega)
    go_enter Tryd.func53, Tryd.ntmps53
    go_wp2
    refine bodyPost_ret (v := .tuple #[.int .i64 0, .bool false]) (by simp [results, Tryd.results53, go_sem]) rfl ⟨0, false, rfl, num_short t h2, Below.refl _ _⟩
  have c0 : decide ((t.length : Int) < 2) = false := decide_eq_false (by omega)
  have hsz : 0 < (⟨t.toArray⟩ : ByteArray).size := by simp [ByteArray.size]; omega
  have h0 : 0 < t.length := by omega
  obtain ⟨x, hx⟩ : ∃ x : Nat, ((⟨t.toArray⟩ : ByteArray)[0]'hsz).toNat = x := ⟨_, rfl⟩
  have HX : Hid ((t[0]'h0).toNat = x) := Lib.hid (by rw [← hx]; rfl)
  by_cases hc : x = 45
  · have c1 : ((x : Int) == 45) = true := beq_iff_eq.2 (by omega)
    have HC := Lib.hid hc
    clear hc
    go_enter Tryd.func53, Tryd.ntmps53
    go_wp2_with (first | (go_at_call 73; rw [tail_of]; (with_reducible refine (spec_ParseUint (t.drop 1) (by simp; omega) _).mono ?_); rintro e w1 ⟨r, ok, rfl, hr, hb1⟩; have hr0 := hr.range; have HR := Lib.hid hr; clear hr))
    refine bodyPost_ret (v := .tuple #[.int .i64 (-r), .bool ok]) (by simp [results, Tryd.results53, go_sem]) rfl ⟨(-r), ok, rfl, num_minus t h0 r ok HR.out (HX.out.trans HC.out), hb1⟩
  · have c1 : ((x : Int) == 45) = false := beq_eq_false_iff_ne.2 (by omega)
    have HC := Lib.hid hc
    clear hc
    go_enter Tryd.func53, Tryd.ntmps53
    go_wp2_with (first | (go_at_call 73; rw [tail_of]; (with_reducible refine (spec_ParseUint (t.drop 1) (by simp; omega) _).mono ?_); rintro e w1 ⟨r, ok, rfl, hr, hb1⟩; have hr0 := hr.range; have HR := Lib.hid hr; clear hr))
    refine bodyPost_ret (v := .tuple #[.int .i64 r, .bool ok]) (by simp [results, Tryd.results53, go_sem]) rfl ⟨r, ok, rfl, num_plus t h0 r ok HR.out (fun h => HC.out (HX.out.symm.trans h)), hb1⟩

/-- What a call of parseInt ends with. -/
def PiEnd (t : List UInt8) (w : World) (e : Ending) (w' : World) : Prop :=
  ∃ r ok, e = .returned (.tuple #[.int .i64 r, .bool ok]) ∧ PiR t r ok ∧ Below w.heap.size w w'

theorem impl_parseInt (t : List UInt8) (hl : t.length ≤ 9223372036854775807) (w : World) (htab : Lib.TabIs Tryd.prog w "internal/strconv.uint64pow10" .u64 Lib.pow10Tab) :
    Calls Tryd.prog 40 #[tx t] w (PiEnd t w) := by
  by_cases hp : Lib.hasPrefix t [45] = true
  · have h1 : 1 ≤ t.length := by
      cases t with
      | nil => simp [Lib.hasPrefix] at hp
      | cons c t => simp
    have c1 : (t.length < 1) = False := eq_false (by omega)
    have HP := Lib.hid hp
    go_enter Tryd.func40, Tryd.ntmps40
    go_wp2_with (first | (go_at_call 62; (with_reducible refine (Tryd.strings_HasPrefix _ _ _).mono ?_); rintro e w9 ⟨rfl, hw9⟩; have hw9x := hw9.symm; clear hw9; subst hw9x))
    go_region
    go_wp2_with fail
    go_at_call 63
    rw [tail_of]
    have HB0 := Lib.hid (show Below w.heap.size w w.drew from Below.drew (Below.refl _ _))
    refine (impl_ParseUint (t.drop 1) (by simp; omega) _ (tab_on htab HB0.out)).mono ?_
    rintro e w1 ⟨r, ok, rfl, hr, hb0⟩
    have hb1 := on_call HB0.out hb0
    clear hb0
    have hr0 := hr.range
    have HR := Lib.hid hr
    clear hr
    have hwr : wrap64 (-r) = (-r) := w64 _ (by omega)
    cases ok
    · go_wp2
      refine bodyPost_ret (v := .tuple #[.int .i64 0, .bool false]) (by simp [results, Tryd.results40, go_sem]) rfl ⟨0, false, rfl, pi_minus_no t r false HR.out HP.out (Or.inl rfl), hb1⟩
    · have htab1 := Lib.hid (tab_on htab hb1)
      by_cases hsame : itoa (-r) = t
      · have HS : Hid (PiR t (-r) true) := Lib.hid (pi_yes t _ ⟨by omega, by omega⟩ hsame)
        have c2 : (itoa (-r) == t) = true := beq_iff_eq.2 hsame
        clear hsame
        go_wp2_with (first | (go_at_call 32; (with_reducible refine (implFormatInt (-r) (by omega) (by omega) _ htab1.out).mono ?_); rintro e w2 ⟨rfl, hb2⟩))
        refine bodyPost_ret (v := .tuple #[.int .i64 (-r), .bool true]) (by simp [results, Tryd.results40, go_sem]) rfl ⟨(-r), true, rfl, HS.out, on_call hb1 hb2⟩
      · have HS : Hid (PiR t 0 false) := Lib.hid (pi_minus_no t r true HR.out HP.out (Or.inr hsame))
        have c2 : (itoa (-r) == t) = false := beq_eq_false_iff_ne.2 hsame
        clear hsame
        go_wp2_with (first | (go_at_call 32; (with_reducible refine (implFormatInt (-r) (by omega) (by omega) _ htab1.out).mono ?_); rintro e w2 ⟨rfl, hb2⟩))
        refine bodyPost_ret (v := .tuple #[.int .i64 0, .bool false]) (by simp [results, Tryd.results40, go_sem]) rfl ⟨0, false, rfl, HS.out, on_call hb1 hb2⟩
  · have hq : Lib.hasPrefix t [45] = false := by simpa using hp
    have HP := Lib.hid hq
    go_enter Tryd.func40, Tryd.ntmps40
    go_wp2_with (first | (go_at_call 62; (with_reducible refine (Tryd.strings_HasPrefix _ _ _).mono ?_); rintro e w9 ⟨rfl, hw9⟩; have hw9x := hw9.symm; clear hw9; subst hw9x))
    go_at_call 63
    refine (impl_ParseUint t hl _ htab).mono ?_
    rintro e w1 ⟨r, ok, rfl, hr, hb1⟩
    have hr0 := hr.range
    have HR := Lib.hid hr
    clear hr
    have hwr : wrap64 r = r := w64 _ (by omega)
    cases ok
    · go_wp2
      refine bodyPost_ret (v := .tuple #[.int .i64 0, .bool false]) (by simp [results, Tryd.results40, go_sem]) rfl ⟨0, false, rfl, pi_plus_no t r false HR.out HP.out (Or.inl rfl), hb1⟩
    · have htab1 := Lib.hid (tab_on htab hb1)
      by_cases hsame : itoa r = t
      · have HS : Hid (PiR t r true) := Lib.hid (pi_yes t _ ⟨by omega, by omega⟩ hsame)
        have c2 : (itoa r == t) = true := beq_iff_eq.2 hsame
        clear hsame
        go_wp2_with (first | (go_at_call 32; (with_reducible refine (implFormatInt r (by omega) (by omega) _ htab1.out).mono ?_); rintro e w2 ⟨rfl, hb2⟩))
        refine bodyPost_ret (v := .tuple #[.int .i64 r, .bool true]) (by simp [results, Tryd.results40, go_sem]) rfl ⟨r, true, rfl, HS.out, on_call hb1 hb2⟩
      · have HS : Hid (PiR t 0 false) := Lib.hid (pi_plus_no t r true HR.out HP.out (Or.inr hsame))
        have c2 : (itoa r == t) = false := beq_eq_false_iff_ne.2 hsame
        clear hsame
        go_wp2_with (first | (go_at_call 32; (with_reducible refine (implFormatInt r (by omega) (by omega) _ htab1.out).mono ?_); rintro e w2 ⟨rfl, hb2⟩))
        refine bodyPost_ret (v := .tuple #[.int .i64 0, .bool false]) (by simp [results, Tryd.results40, go_sem]) rfl ⟨0, false, rfl, HS.out, on_call hb1 hb2⟩
end Go.Proofs.YtldcciipicnooaaDoor
