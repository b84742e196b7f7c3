/-
  What is proved here: the texts of whole numbers: spec.FormatInt and impl.FormatInt (strconv.Itoa) both return the decimal numeral ('Lib.itoa') of every int, impl's under the condition that the table of powers of ten is laid.
-/
import Derived.Test.YtjgjgjkffoagoaaDoorProg
import Derived.Test.YtjgjgjkffoagoaaDoorShelf
import Derived.Below
import Derived.WalkKit
import Derived.Lib.Hide
import Derived.Lib.ItoaNum
import Derived.Lib.ItoaLen
import Derived.Lib.SmallJoins
import Derived.Laws.BytesArg
import Derived.BigCall
import Derived.BigGuard
import Derived.Lib.AppendIntMem
namespace Go.Proofs.YtjgjgjkffoagoaaDoor
open Go.RowKit
open Go.Lib (itoa decDigits nDigits nDigits_le20 itoa_length_le)
set_option maxRecDepth 100000
set_option linter.unusedVariables false
set_option linter.unusedSimpArgs false

theorem w64 (n : Int) (h : -9223372036854775808 ≤ n ∧ n ≤ 9223372036854775807) : wrap64 n = n := by unfold wrap64; omega

/-- A text of bytes. -/
abbrev tx (l : List UInt8) : Value := .string ⟨l.toArray⟩

theorem figure (d : Int) (h0 : 0 ≤ d) (h1 : d < 10) (w : World) :
    Calls Tryd.prog 131 #[.int .i64 d] w fun e w' => e = .returned (.int .u8 (48 + d)) ∧ w' = w := by
  have c : decide (d < 10) = true := decide_eq_true h1
  have hw : wrap64 (48 + d) = 48 + d := w64 _ (by omega)
  have hm : (48 + d) % 256 = 48 + d := by omega
  go_enter Tryd.func131, Tryd.ntmps131
  go_wp2
  go_ret
  exact ⟨by first | rfl | (simp [hw, hm]; done), rfl⟩

/-- The digits that a whole number has (none for 0). -/
def dd (u : Nat) : List UInt8 := if u = 0 then [] else decDigits u
theorem dd_step (u : Nat) (h : u ≠ 0) : dd u = dd (u / 10) ++ [UInt8.ofNat (48 + u % 10)] := by
  unfold dd
  rw [if_neg h, decDigits]
  by_cases hs : u < 10
  · rw [dif_pos hs, if_pos (by omega), Nat.mod_eq_of_lt hs]; rfl
  · rw [dif_neg hs, if_neg (by omega)]

/-- The loop's relation: what is still to be written, and what is written. -/
def FiRel (n : Int) (w : World) (v s : Value) (wr : World) : Prop :=
  ∃ (m : Int) (l : List UInt8), v = .int .i64 m ∧ s = tx l ∧ -9223372036854775808 ≤ m ∧ m ≤ 9223372036854775807 ∧ dd m.natAbs ++ l = dd n.natAbs ∧ Below w.heap.size w wr

theorem tm_neg (m : Int) (h : m < 0) : Int.tmod m 10 = -((m.natAbs % 10 : Nat) : Int) ∧ Int.tdiv m 10 = -((m.natAbs / 10 : Nat) : Int) := by
  obtain ⟨u, rfl⟩ : ∃ u : Nat, m = -(u : Int) := ⟨m.natAbs, by omega⟩
  rw [Int.neg_tmod, Int.neg_tdiv, Int.natAbs_neg, Int.natAbs_natCast]
  exact ⟨rfl, rfl⟩
theorem tm_pos (m : Int) (h : 0 ≤ m) : Int.tmod m 10 = ((m.natAbs % 10 : Nat) : Int) ∧ Int.tdiv m 10 = ((m.natAbs / 10 : Nat) : Int) := by
  obtain ⟨u, rfl⟩ : ∃ u : Nat, m = (u : Int) := ⟨m.natAbs, by omega⟩
  rw [Int.natAbs_natCast]
  exact ⟨rfl, rfl⟩
theorem dd_length (u : Nat) (h : u < 18446744073709551616) : (dd u).length ≤ 20 := by
  unfold dd
  by_cases hz : u = 0
  · rw [if_pos hz]; simp
  · rw [if_neg hz, Lib.decDigits_length]; exact nDigits_le20 u h

/-- 'string([]byte{c})'. -/
theorem conv_one (W : World) (q : Nat) (hq : q < 10) :
    (convert 22 9 (.slice (some ⟨W.heap.size, 0, none⟩) 1 1)).run Tryd.prog (W.alloc (.cells #[.int .u8 (48 + (q : Int))] 5)) = .ok (tx [UInt8.ofNat (48 + q)]) (W.alloc (.cells #[.int .u8 (48 + (q : Int))] 5)) := by
  have h := run_convert_bytes_arg (P := Tryd.prog) (W.alloc (.cells #[.int .u8 (48 + (q : Int))] 5)) 22 5 Tryd.underlying22 Tryd.underlying5 W.heap.size 0 1 1 [48 + (q : Int)] rfl (fun i hi => by
    obtain rfl : i = 0 := by omega
    simp [Addr.add]) 9 Tryd.underlying9
  rw [h]
  have e : ((48 : Int) + q).toNat = 48 + q := by omega
  simp [strOfNums, e]

theorem fi_minus (n : Int) (l : List UInt8) (h : n < 0) (hl : l = dd n.natAbs) : itoa n = 45 :: l := by
  unfold itoa
  rw [if_pos h, hl, dd, if_neg (by omega)]

theorem fi_plus (n : Int) (l : List UInt8) (h : 0 < n) (hl : l = dd n.natAbs) : itoa n = l := by
  have e : n.toNat = n.natAbs := by omega
  unfold itoa
  rw [if_neg (by omega), hl, dd, if_neg (by omega), e]

theorem fi_step (n m : Int) (l : List UInt8) (w wr : World) (o : Obj) (q : Nat) (hq : q = m.natAbs % 10) (hm : m ≠ 0) (hm0 : -9223372036854775808 ≤ m) (hm1 : m ≤ 9223372036854775807) (hl : dd m.natAbs ++ l = dd n.natAbs) (hb : Below w.heap.size w wr) :
    FiRel n w (.int .i64 (m.tdiv 10)) (.string ((⟨#[48 + UInt8.ofNat q]⟩ : ByteArray) ++ (⟨l.toArray⟩ : ByteArray))) (wr.alloc o) ∧ (RowKit.intOf (.int .i64 (m.tdiv 10))).natAbs < (RowKit.intOf (.int .i64 m)).natAbs := by
  have hd : (m.tdiv 10).natAbs = m.natAbs / 10 := by
    by_cases h : m < 0
    · rw [(tm_neg m h).2, Int.natAbs_neg, Int.natAbs_natCast]
    · rw [(tm_pos m (by omega)).2, Int.natAbs_natCast]
  have e : (⟨#[48 + UInt8.ofNat q]⟩ : ByteArray) ++ (⟨l.toArray⟩ : ByteArray) = ⟨([UInt8.ofNat (48 + q)] ++ l).toArray⟩ := by
    apply ByteArray.ext
    apply Array.toList_inj.1
    rw [ByteArray.toList_data_append]
    simp
  refine ⟨⟨m.tdiv 10, [UInt8.ofNat (48 + q)] ++ l, rfl, by rw [e], by omega, by omega, ?_, hb.alloc hb.size _⟩, by show (m.tdiv 10).natAbs < m.natAbs; omega⟩
  rw [hd, ← hl, dd_step m.natAbs (by omega), hq, List.append_assoc]

theorem specFormatInt (n : Int) (h0 : -9223372036854775808 ≤ n) (h1 : n ≤ 9223372036854775807) (w : World) :
    Calls Tryd.prog 127 #[.int .i64 n] w fun e w' => e = .returned (tx (itoa n)) ∧ Below w.heap.size w w' := by
  by_cases hz : n = 0
  · subst hz
    go_enter Tryd.func127, Tryd.ntmps127
    go_wp2
    go_ret
    have e : itoa 0 = [48] := by decide +kernel
    exact ⟨by rw [e]; rfl, Below.refl _ _⟩
  have c0 : (n == 0) = false := beq_eq_false_iff_ne.2 hz
  obtain ⟨b, c1⟩ : ∃ b, decide (n < 0) = b := ⟨_, rfl⟩
  go_enter Tryd.func127, Tryd.ntmps127
  go_wp2
  go_loopw [0, 4] (fun v s wr => FiRel n w v s wr) (fun v _ _ => (RowKit.intOf v).natAbs)
  case atStart => exact ⟨n, [], rfl, rfl, h0, h1, by simp, Below.refl _ _⟩
  case round =>
    obtain ⟨m, l, rfl, rfl, hm0, hm1, hl, hb⟩ := hrel
    have hll : l.length ≤ 20 := by have := dd_length n.natAbs (by omega); rw [← hl] at this; simp at this; omega
    have hs1 : (9223372036854775807 < 1 + l.length) = False := eq_false (by omega)
    by_cases hm : m = 0
    · have cm : (m != 0) = false := bne_eq_false_iff_eq.2 hm
      have hl' : l = dd n.natAbs := by rw [← hl, hm]; rfl
      have HL := Lib.hid hl'
      have HC := Lib.hid c1
      clear hl hl' c1
      cases b
      · have hn : 0 < n := by have := HC.out; simp at this; omega
        go_wp2
        go_ret
        exact ⟨by rw [fi_plus n l hn HL.out]; rfl, hb⟩
      · have hn : n < 0 := by have := HC.out; simpa using this
        go_wp2
        go_ret
        exact ⟨by rw [fi_minus n l hn HL.out]; rfl, hb⟩
    · have cm : (m != 0) = true := bne_iff_ne.2 hm
      obtain ⟨q, hq⟩ : ∃ q : Nat, q = m.natAbs % 10 := ⟨_, rfl⟩
      have hq9 : q < 10 := by omega
      have hcv := conv_one wr q hq9
      have HQ := Lib.hid hq
      have HL := Lib.hid hl
      clear hl
      by_cases ht : Int.tmod m 10 < 0
      · have ct : decide (Int.tmod m 10 < 0) = true := decide_eq_true ht
        have hmn : m < 0 := by by_cases h : m < 0; exact h; exact absurd ht (by rw [(tm_pos m (by omega)).1]; omega)
        have hwn : wrap64 (-(Int.tmod m 10)) = (q : Int) := by rw [w64 _ (by rw [(tm_neg m hmn).1]; omega), (tm_neg m hmn).1]; omega
        clear hq
        go_wp2_with (first | (go_at_call 131; (with_reducible refine (figure (q : Int) (by omega) (by omega) _).mono ?_); rintro e w' ⟨rfl, hw9⟩; have hw9x := hw9.symm; clear hw9; subst hw9x))
        case roundEnd => exact fi_step n m l w wr _ q HQ.out hm hm0 hm1 HL.out hb
      · have ct : decide (Int.tmod m 10 < 0) = false := decide_eq_false ht
        have hwn : Int.tmod m 10 = (q : Int) := by
          by_cases h : m < 0
          · rw [(tm_neg m h).1] at ht ⊢; omega
          · rw [(tm_pos m (by omega)).1]; omega
        clear hq
        go_wp2_with (first | (go_at_call 131; (with_reducible refine (figure (q : Int) (by omega) (by omega) _).mono ?_); rintro e w' ⟨rfl, hw9⟩; have hw9x := hw9.symm; clear hw9; subst hw9x))
        case roundEnd => exact fi_step n m l w wr _ q HQ.out hm hm0 hm1 HL.out hb

/-- strconv.Itoa, in the words of these texts. -/
theorem implFormatInt (n : Int) (h0 : -9223372036854775808 ≤ n) (h1 : n ≤ 9223372036854775807) (w : World) (htab : Lib.TabIs Tryd.prog w "internal/strconv.uint64pow10" .u64 Lib.pow10Tab) :
    Calls Tryd.prog 21 #[.int .i64 n] w fun e w' => e = .returned (tx (itoa n)) ∧ Below w.heap.size w w' := by
  go_enter Tryd.func21, Tryd.ntmps21
  go_wp2_with (first | (go_at_call 38; (with_reducible refine (Tryd.strconv_Itoa n h0 h1 _ htab).mono ?_); rintro e w' ⟨rfl, k, os, rfl⟩))
  go_ret
  exact ⟨rfl, Lib.below_grow _ _ (Nat.le_refl _) _ _⟩
end Go.Proofs.YtjgjgjkffoagoaaDoor
