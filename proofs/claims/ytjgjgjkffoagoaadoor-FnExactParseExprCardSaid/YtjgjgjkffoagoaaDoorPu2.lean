/-
  What is proved here: impl.ParseUint: a text is read as the whole number from 0 to 1000000000 of which it is the numeral; another text as none. Condition: the table of powers of ten is laid.
-/
import Derived.Test.YtjgjgjkffoagoaaDoorPu
namespace Go.Proofs.YtjgjgjkffoagoaaDoor
open Go.RowKit
open Go.Lib (itoa decDigits nDigits nDigits_le20 itoa_length_le)
set_option maxRecDepth 100000
set_option linter.unusedVariables false
set_option linter.unusedSimpArgs false

theorem impl_ParseUint (l : List UInt8) (hl : l.length ≤ 9223372036854775807) (w : World) (htab : Lib.TabIs Tryd.prog w "internal/strconv.uint64pow10" .u64 Lib.pow10Tab) :
    Calls Tryd.prog 105 #[tx l] w (PuEnd l w) := by
  by_cases hnone : l.length = 0
  · have c0 : ((l.length : Int) == 0) = true := beq_iff_eq.2 (by omega)
    go_enter Tryd.func105, Tryd.ntmps105
    go_wp2
    refine bodyPost_ret (v := .tuple #[.int .i64 0, .bool false]) (by simp [results, Tryd.results105, go_sem]) rfl ⟨0, false, rfl, pu_none l hnone, Below.refl _ _⟩
  have cn : ((l.length : Int) == 0) = false := beq_eq_false_iff_ne.2 (by omega)
  by_cases hlong : 10 < l.length
  · have c0 : decide (10 < (l.length : Int)) = true := decide_eq_true (by omega)
    go_enter Tryd.func105, Tryd.ntmps105
    go_wp2
    refine bodyPost_ret (v := .tuple #[.int .i64 0, .bool false]) (by simp [results, Tryd.results105, go_sem]) rfl ⟨0, false, rfl, pu_long l hlong, Below.refl _ _⟩
  have c0 : decide (10 < (l.length : Int)) = false := decide_eq_false (by omega)
  go_enter Tryd.func105, Tryd.ntmps105
  go_wp2
  go_loopw [4, 5] (fun n i wr => PuRel l w n i wr) (fun _ i _ => l.length - (RowKit.intOf i).toNat)
  case atStart => exact ⟨0, Nat.zero_le _, rfl, rfl, by simp [dval], by simp [dval], rfl⟩
  case round =>
    obtain ⟨k, hk, rfl, rfl, hd0, hd1, rfl⟩ := hrel
    have hk10 : dval (l.take k) < 10000000000 := by
      have h10 : k = 0 ∨ k = 1 ∨ k = 2 ∨ k = 3 ∨ k = 4 ∨ k = 5 ∨ k = 6 ∨ k = 7 ∨ k = 8 ∨ k = 9 ∨ k = 10 := by omega
      rcases h10 with h | h | h | h | h | h | h | h | h | h | h <;> (subst h; omega)
    by_cases hlt : k < l.length
    · have cl : decide ((k : Int) < (l.length : Int)) = true := decide_eq_true (by omega)
      have hsz : k < (⟨l.toArray⟩ : ByteArray).size := by simpa [ByteArray.size] using hlt
      obtain ⟨x, hx⟩ : ∃ x : Nat, ((⟨l.toArray⟩ : ByteArray)[k]'hsz).toNat = x := ⟨_, rfl⟩
      have hx256 : x < 256 := by rw [← hx]; exact UInt8.toNat_lt _
      have HX : Hid (l[k].toNat = x) := Lib.hid (by rw [← hx]; rfl)
      obtain ⟨d, hd⟩ : ∃ d, dval (l.take k) = d := ⟨_, rfl⟩
      rw [hd] at hd0 hd1 hk10
      have HD := Lib.hid hd
      by_cases h48 : x < 48
      · have c1 : decide ((x : Int) < 48) = true := decide_eq_true (by omega)
        have HE : Hid (PuR l 0 false) := Lib.hid (pu_strange l k hlt (Or.inl (by rw [HX.out]; exact h48)))
        go_wp2
        refine bodyPost_ret (v := .tuple #[.int .i64 0, .bool false]) (by simp [results, Tryd.results105, go_sem]) rfl ⟨0, false, rfl, HE.out, Below.refl _ _⟩
      · have c1 : decide ((x : Int) < 48) = false := decide_eq_false (by omega)
        by_cases h57 : 57 < x
        · have c2 : decide (57 < (x : Int)) = true := decide_eq_true (by omega)
          have HE : Hid (PuR l 0 false) := Lib.hid (pu_strange l k hlt (Or.inr (by rw [HX.out]; exact h57)))
          go_wp2
          refine bodyPost_ret (v := .tuple #[.int .i64 0, .bool false]) (by simp [results, Tryd.results105, go_sem]) rfl ⟨0, false, rfl, HE.out, Below.refl _ _⟩
        · have c2 : decide (57 < (x : Int)) = false := decide_eq_false (by omega)
          have HR : Hid (PuRel l wr (.int .i64 (10 * d + x - 48)) (.int .i64 ((k : Int) + 1)) wr ∧ l.length - ((k : Int) + 1).toNat < l.length - (k : Int).toNat) := Lib.hid (pu_round l wr k x d hlt HX.out HD.out hd0 hd1 (by omega) (by omega))
          go_wp2
          case roundEnd =>
            have h := HR.out
            rw [show (10 * d + (x : Int) - 48) = d * 10 + ((x : Int) - 48) by omega] at h
            exact h
    · have cl : decide ((k : Int) < (l.length : Int)) = false := decide_eq_false (by omega)
      obtain rfl : k = l.length := by omega
      rw [List.take_length] at hd0 hd1 hk10 ⊢
      obtain ⟨d, hd⟩ : ∃ d, dval l = d := ⟨_, rfl⟩
      rw [hd] at hd0 hd1 hk10 ⊢
      have HD := Lib.hid hd
      clear hd
      by_cases hgr : 1000000000 < d
      · have c1 : decide (1000000000 < d) = true := decide_eq_true hgr
        have HE : Hid (PuR l 0 false) := Lib.hid (pu_great l (by rw [HD.out]; exact hgr))
        go_wp2
        refine bodyPost_ret (v := .tuple #[.int .i64 0, .bool false]) (by simp [results, Tryd.results105, go_sem]) rfl ⟨0, false, rfl, HE.out, Below.refl _ _⟩
      · have c1 : decide (1000000000 < d) = false := decide_eq_false hgr
        have hit := itoa_length_le d (by omega) (by omega)
        by_cases hsame : itoa d = l
        · have HE : Hid (PuR l d true) := Lib.hid (by have := pu_one l (by rw [HD.out]; omega) (by rw [HD.out]; omega) (by rw [HD.out]; exact hsame); rwa [HD.out] at this)
          have c2 : (itoa d == l) = true := beq_iff_eq.2 hsame
          clear hsame
          go_wp2_with (first | (go_at_call 21; (with_reducible refine (implFormatInt d (by omega) (by omega) _ htab).mono ?_); rintro e w1 ⟨rfl, hb1⟩))
          refine bodyPost_ret (v := .tuple #[.int .i64 d, .bool true]) (by simp [results, Tryd.results105, go_sem]) rfl ⟨d, true, rfl, HE.out, hb1⟩
        · have HE : Hid (PuR l 0 false) := Lib.hid (pu_other l (by rw [HD.out]; exact hsame))
          have c2 : (itoa d == l) = false := beq_eq_false_iff_ne.2 hsame
          clear hsame
          go_wp2_with (first | (go_at_call 21; (with_reducible refine (implFormatInt d (by omega) (by omega) _ htab).mono ?_); rintro e w1 ⟨rfl, hb1⟩))
          refine bodyPost_ret (v := .tuple #[.int .i64 0, .bool false]) (by simp [results, Tryd.results105, go_sem]) rfl ⟨0, false, rfl, HE.out, hb1⟩

end Go.Proofs.YtjgjgjkffoagoaaDoor
