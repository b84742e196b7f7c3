/-
  What is proved here: numbers between bounds, and texts laid together. No condition.
-/
import Derived.Test.YtjgjgjkffoagoaaDoorTxt
namespace Go.Proofs.YtjgjgjkffoagoaaDoor
open Go.RowKit
open Go.Lib (itoa decDigits nDigits nDigits_le20 itoa_length_le)
set_option maxRecDepth 100000
set_option linter.unusedVariables false
set_option linter.unusedSimpArgs false

/-- Does a number lie between two? -/
def inR (a b n : Int) : Bool := decide (a ≤ n ∧ n ≤ b)
theorem inR_eq (a b n : Int) : inR a b n = (decide (a ≤ n) && decide (n ≤ b)) := by unfold inR; simp
theorem inR_of {a b n : Int} (h : a ≤ n ∧ n ≤ b) : inR a b n = true := decide_eq_true h
theorem inR_not {a b n : Int} (h : ¬(a ≤ n ∧ n ≤ b)) : inR a b n = false := decide_eq_false h

theorem spec_l01In (n a b : Int) (w : World) :
    Calls Tryd.prog 48 #[.int .i64 n, .int .i64 a, .int .i64 b] w fun e w' => e = .returned (.bool (inR a b n)) ∧ w' = w := by
  by_cases c : a ≤ n
  · have c0 : decide (a ≤ n) = true := decide_eq_true c
    go_enter Tryd.func48, Tryd.ntmps48
    go_wp2
    go_ret
    exact ⟨by rw [inR_eq]; simp [c], rfl⟩
  · have c0 : decide (a ≤ n) = false := decide_eq_false c
    go_enter Tryd.func48, Tryd.ntmps48
    go_wp2
    go_ret
    exact ⟨by rw [inR_not (fun h => by omega)]; rfl, rfl⟩

theorem impl_within (n a b : Int) (w : World) :
    Calls Tryd.prog 39 #[.int .i64 n, .int .i64 a, .int .i64 b] w fun e w' => e = .returned (.bool (inR a b n)) ∧ w' = w := by
  by_cases c : a ≤ n
  · have c0 : decide (a ≤ n) = true := decide_eq_true c
    go_enter Tryd.func39, Tryd.ntmps39
    go_wp2
    go_ret
    exact ⟨by rw [inR_eq]; simp [c], rfl⟩
  · have c0 : decide (a ≤ n) = false := decide_eq_false c
    go_enter Tryd.func39, Tryd.ntmps39
    go_wp2
    go_ret
    exact ⟨by rw [inR_not (fun h => by omega)]; rfl, rfl⟩

theorem cat (a b : List UInt8) : (⟨a.toArray⟩ : ByteArray) ++ (⟨b.toArray⟩ : ByteArray) = ⟨(a ++ b).toArray⟩ := by
  apply ByteArray.ext
  apply Array.toList_inj.1
  rw [ByteArray.toList_data_append]

end Go.Proofs.YtjgjgjkffoagoaaDoor
