/-
  What is proved here: what spec.FormatRecord and impl.FormatRecord return: one and the same text, at any four ints. Condition of impl's: the table of powers of ten is laid.
-/
import Derived.Test.YtldcciipicnooaaDoorFmtP
import Derived.Deep.RegionHeld3
namespace Go.Proofs.YtldcciipicnooaaDoor
open Go.RowKit
open Go.Lib (itoa decDigits nDigits nDigits_le20 itoa_length_le)
set_option maxRecDepth 100000
set_option linter.unusedVariables false
set_option linter.unusedSimpArgs false

theorem spec_l09Code (n : Int) (w : World) :
    Calls Tryd.prog 28 #[.int .i64 n] w fun e w' => e = .returned (.bool (inR (-32767) 32767 n)) ∧ w' = w := by
  go_enter Tryd.func28, Tryd.ntmps28
  go_wp2_with (first | (go_at_call 27; (with_reducible refine (spec_l01In _ _ _ _).mono ?_); rintro e w9 ⟨rfl, hw9⟩; have hw9x := hw9.symm; clear hw9; subst hw9x))
  go_ret
  exact ⟨rfl, rfl⟩
theorem impl_codeOk (n : Int) (w : World) :
    Calls Tryd.prog 31 #[.int .i64 n] w fun e w' => e = .returned (.bool (inR (-32767) 32767 n)) ∧ w' = w := by
  go_enter Tryd.func31, Tryd.ntmps31
  go_wp2_with (first | (go_at_call 30; (with_reducible refine (impl_within _ _ _ _).mono ?_); rintro e w9 ⟨rfl, hw9⟩; have hw9x := hw9.symm; clear hw9; subst hw9x))
  go_ret
  exact ⟨rfl, rfl⟩

/-- A record's numbers in their ranges. -/
def recOk (a b c d : Int) : Prop := inR 0 5 a = true ∧ inR 0 11 b = true ∧ inR (-32767) 32767 c = true ∧ inR (-32767) 32767 d = true
instance (a b c d : Int) : Decidable (recOk a b c d) := by unfold recOk; infer_instance
/-- The text of a record. -/
def recTx (a b c d : Int) : List UInt8 := if recOk a b c d then itoa a ++ [32] ++ itoa b ++ [32] ++ itoa c ++ [32] ++ itoa d else []

theorem on_call {a w w' : World} (h : Below a.heap.size a w) (h' : Below w.heap.size w w') : Below a.heap.size a w' := h.trans (h'.mono h.size)

/-- What a call of FormatRecord ends with. -/
def FrEnd (a b c d : Int) (w : World) (e : Ending) (w' : World) : Prop := e = .returned (tx (recTx a b c d)) ∧ Below w.heap.size w w'

/-- The record that the call has boxed. -/
abbrev boxR (w : World) (a b c d : Int) : World := w.alloc (.cells #[.int .i64 a, .int .i64 b, .int .i64 c, .int .i64 d] 25)
theorem keepR {w W : World} {a b c d : Int} (h : Below (boxR w a b c d).heap.size (boxR w a b c d) W) :
    (Below (boxR w a b c d).heap.size (boxR w a b c d) W ∧ W.cell? ⟨w.heap.size, 0, none⟩ = some (.int .i64 a) ∧ W.cell? ⟨w.heap.size, 1, none⟩ = some (.int .i64 b) ∧ W.cell? ⟨w.heap.size, 2, none⟩ = some (.int .i64 c) ∧ W.cell? ⟨w.heap.size, 3, none⟩ = some (.int .i64 d)) := by
  refine ⟨h, ?_, ?_, ?_, ?_⟩ <;> (rw [h.cell (by simp [boxR])]; simp [boxR])

set_option maxHeartbeats 8000000 in
theorem spec_FormatRecord (a b c d : Int) (ha0 : -9223372036854775808 ≤ a) (ha1 : a ≤ 9223372036854775807) (hb0 : -9223372036854775808 ≤ b) (hb1 : b ≤ 9223372036854775807) (hc0 : -9223372036854775808 ≤ c) (hc1 : c ≤ 9223372036854775807) (hd0 : -9223372036854775808 ≤ d) (hd1 : d ≤ 9223372036854775807) (w : World) :
    Calls Tryd.prog 9 #[.agg #[.int .i64 a, .int .i64 b, .int .i64 c, .int .i64 d]] w (FrEnd a b c d w) := by
  have hla := itoa_length_le a ha0 ha1
  have hlb := itoa_length_le b hb0 hb1
  have hlc := itoa_length_le c hc0 hc1
  have hld := itoa_length_le d hd0 hd1
  have hs1 : (9223372036854775807 < (itoa a).length + 1) = False := eq_false (by omega)
  have hs2 : (9223372036854775807 < (itoa a).length + 1 + (itoa b).length) = False := eq_false (by omega)
  have hs3 : (9223372036854775807 < (itoa a).length + 1 + (itoa b).length + 1) = False := eq_false (by omega)
  have hs4 : (9223372036854775807 < (itoa a).length + 1 + (itoa b).length + 1 + (itoa c).length) = False := eq_false (by omega)
  have hs5 : (9223372036854775807 < (itoa a).length + 1 + (itoa b).length + 1 + (itoa c).length + 1) = False := eq_false (by omega)
  have hs6 : (9223372036854775807 < (itoa a).length + 1 + (itoa b).length + 1 + (itoa c).length + 1 + (itoa d).length) = False := eq_false (by omega)
  have HP : Hid (recTx a b c d = if recOk a b c d then itoa a ++ [32] ++ itoa b ++ [32] ++ itoa c ++ [32] ++ itoa d else []) := Lib.hid rfl
  by_cases c0 : inR 0 5 a = true
  case neg =>
    have e0 : inR 0 5 a = false := by simpa using c0
    have HN : Hid (¬recOk a b c d) := Lib.hid (fun h => c0 h.1)
    clear c0
    go_enter Tryd.func9, Tryd.ntmps9
    go_wp2_with (first | (go_at_call 27; (with_reducible refine (spec_l01In _ _ _ _).mono ?_); rintro e w9 ⟨rfl, hw9⟩; have hw9x := hw9.symm; clear hw9; subst hw9x) | (go_at_call 28; (with_reducible refine (spec_l09Code _ _).mono ?_); rintro e w9 ⟨rfl, hw9⟩; have hw9x := hw9.symm; clear hw9; subst hw9x))
    go_ret
    exact ⟨by rw [HP.out, if_neg HN.out]; rfl, by repeat (first | exact Below.refl _ _ | exact Joins.below_alloc1 _ _)⟩
  by_cases c1 : inR 0 11 b = true
  case neg =>
    have e1 : inR 0 11 b = false := by simpa using c1
    have HN : Hid (¬recOk a b c d) := Lib.hid (fun h => c1 h.2.1)
    clear c1
    go_enter Tryd.func9, Tryd.ntmps9
    go_wp2_with (first | (go_at_call 27; (with_reducible refine (spec_l01In _ _ _ _).mono ?_); rintro e w9 ⟨rfl, hw9⟩; have hw9x := hw9.symm; clear hw9; subst hw9x) | (go_at_call 28; (with_reducible refine (spec_l09Code _ _).mono ?_); rintro e w9 ⟨rfl, hw9⟩; have hw9x := hw9.symm; clear hw9; subst hw9x))
    go_ret
    exact ⟨by rw [HP.out, if_neg HN.out]; rfl, by repeat (first | exact Below.refl _ _ | exact Joins.below_alloc1 _ _)⟩
  by_cases c2 : inR (-32767) 32767 c = true
  case neg =>
    have e2 : inR (-32767) 32767 c = false := by simpa using c2
    have HN : Hid (¬recOk a b c d) := Lib.hid (fun h => c2 h.2.2.1)
    clear c2
    go_enter Tryd.func9, Tryd.ntmps9
    go_wp2_with (first | (go_at_call 27; (with_reducible refine (spec_l01In _ _ _ _).mono ?_); rintro e w9 ⟨rfl, hw9⟩; have hw9x := hw9.symm; clear hw9; subst hw9x) | (go_at_call 28; (with_reducible refine (spec_l09Code _ _).mono ?_); rintro e w9 ⟨rfl, hw9⟩; have hw9x := hw9.symm; clear hw9; subst hw9x))
    go_ret
    exact ⟨by rw [HP.out, if_neg HN.out]; rfl, by repeat (first | exact Below.refl _ _ | exact Joins.below_alloc1 _ _)⟩
  by_cases c3 : inR (-32767) 32767 d = true
  case neg =>
    have e3 : inR (-32767) 32767 d = false := by simpa using c3
    have HN : Hid (¬recOk a b c d) := Lib.hid (fun h => c3 h.2.2.2)
    clear c3
    go_enter Tryd.func9, Tryd.ntmps9
    go_wp2_with (first | (go_at_call 27; (with_reducible refine (spec_l01In _ _ _ _).mono ?_); rintro e w9 ⟨rfl, hw9⟩; have hw9x := hw9.symm; clear hw9; subst hw9x) | (go_at_call 28; (with_reducible refine (spec_l09Code _ _).mono ?_); rintro e w9 ⟨rfl, hw9⟩; have hw9x := hw9.symm; clear hw9; subst hw9x))
    go_ret
    exact ⟨by rw [HP.out, if_neg HN.out]; rfl, by repeat (first | exact Below.refl _ _ | exact Joins.below_alloc1 _ _)⟩
  have HO : Hid (recOk a b c d) := Lib.hid ⟨c0, c1, c2, c3⟩
  go_enter Tryd.func9, Tryd.ntmps9
  go_wp2_with (first | (go_at_call 27; (with_reducible refine (spec_l01In _ _ _ _).mono ?_); rintro e w9 ⟨rfl, hw9⟩; have hw9x := hw9.symm; clear hw9; subst hw9x) | (go_at_call 28; (with_reducible refine (spec_l09Code _ _).mono ?_); rintro e w9 ⟨rfl, hw9⟩; have hw9x := hw9.symm; clear hw9; subst hw9x))
  go_region_held3 (fun W => (Below (boxR w a b c d).heap.size (boxR w a b c d) W ∧ W.cell? ⟨w.heap.size, 0, none⟩ = some (.int .i64 a) ∧ W.cell? ⟨w.heap.size, 1, none⟩ = some (.int .i64 b) ∧ W.cell? ⟨w.heap.size, 2, none⟩ = some (.int .i64 c) ∧ W.cell? ⟨w.heap.size, 3, none⟩ = some (.int .i64 d))) (exact keepR (by repeat (first | (with_reducible exact Below.refl _ _) | (with_reducible refine Below.drew ?_) | (with_reducible refine on_call ?_ (by assumption))))) (first | (go_at_call 29; go_split_ands; (with_reducible refine (specFormatInt a ha0 ha1 _).mono ?_); rintro e w1 ⟨rfl, bl1⟩) | (go_at_call 29; go_split_ands; (with_reducible refine (specFormatInt b hb0 hb1 _).mono ?_); rintro e w2 ⟨rfl, bl2⟩) | (go_at_call 29; go_split_ands; (with_reducible refine (specFormatInt c hc0 hc1 _).mono ?_); rintro e w3 ⟨rfl, bl3⟩) | (go_at_call 29; go_split_ands; (with_reducible refine (specFormatInt d hd0 hd1 _).mono ?_); rintro e w4 ⟨rfl, bl4⟩))
  go_wp2
  go_ret
  refine ⟨?_, ?_⟩
  · rw [HP.out, if_pos HO.out]
    show Ending.returned (Value.string (((((((⟨(itoa a).toArray⟩ : ByteArray) ++ (⟨[32].toArray⟩ : ByteArray)) ++ (⟨(itoa b).toArray⟩ : ByteArray)) ++ (⟨[32].toArray⟩ : ByteArray)) ++ (⟨(itoa c).toArray⟩ : ByteArray)) ++ (⟨[32].toArray⟩ : ByteArray)) ++ (⟨(itoa d).toArray⟩ : ByteArray))) = _
    rw [cat, cat, cat, cat, cat, cat]
  · repeat (first | (with_reducible exact Joins.below_alloc1 _ _) | (with_reducible refine Below.drew ?_) | (with_reducible refine on_call ?_ (by assumption)))

theorem tab_box {w W : World} {a b c d : Int} (h : Lib.TabIs Tryd.prog w "internal/strconv.uint64pow10" .u64 Lib.pow10Tab) (hb : Below (boxR w a b c d).heap.size (boxR w a b c d) W) : Lib.TabIs Tryd.prog W "internal/strconv.uint64pow10" .u64 Lib.pow10Tab :=
  tab_on (tab_on h (Joins.below_alloc1 _ _)) hb

set_option maxHeartbeats 8000000 in
theorem impl_FormatRecord (a b c d : Int) (ha0 : -9223372036854775808 ≤ a) (ha1 : a ≤ 9223372036854775807) (hb0 : -9223372036854775808 ≤ b) (hb1 : b ≤ 9223372036854775807) (hc0 : -9223372036854775808 ≤ c) (hc1 : c ≤ 9223372036854775807) (hd0 : -9223372036854775808 ≤ d) (hd1 : d ≤ 9223372036854775807) (w : World) (htab : Lib.TabIs Tryd.prog w "internal/strconv.uint64pow10" .u64 Lib.pow10Tab) :
    Calls Tryd.prog 11 #[.agg #[.int .i64 a, .int .i64 b, .int .i64 c, .int .i64 d]] w (FrEnd a b c d w) := by
  have hla := itoa_length_le a ha0 ha1
  have hlb := itoa_length_le b hb0 hb1
  have hlc := itoa_length_le c hc0 hc1
  have hld := itoa_length_le d hd0 hd1
  have hs1 : (9223372036854775807 < (itoa a).length + 1) = False := eq_false (by omega)
  have hs2 : (9223372036854775807 < (itoa a).length + 1 + (itoa b).length) = False := eq_false (by omega)
  have hs3 : (9223372036854775807 < (itoa a).length + 1 + (itoa b).length + 1) = False := eq_false (by omega)
  have hs4 : (9223372036854775807 < (itoa a).length + 1 + (itoa b).length + 1 + (itoa c).length) = False := eq_false (by omega)
  have hs5 : (9223372036854775807 < (itoa a).length + 1 + (itoa b).length + 1 + (itoa c).length + 1) = False := eq_false (by omega)
  have hs6 : (9223372036854775807 < (itoa a).length + 1 + (itoa b).length + 1 + (itoa c).length + 1 + (itoa d).length) = False := eq_false (by omega)
  have HP : Hid (recTx a b c d = if recOk a b c d then itoa a ++ [32] ++ itoa b ++ [32] ++ itoa c ++ [32] ++ itoa d else []) := Lib.hid rfl
  by_cases c0 : inR 0 5 a = true
  case neg =>
    have e0 : inR 0 5 a = false := by simpa using c0
    have HN : Hid (¬recOk a b c d) := Lib.hid (fun h => c0 h.1)
    clear c0
    go_enter Tryd.func11, Tryd.ntmps11
    go_wp2_with (first | (go_at_call 30; (with_reducible refine (impl_within _ _ _ _).mono ?_); rintro e w9 ⟨rfl, hw9⟩; have hw9x := hw9.symm; clear hw9; subst hw9x) | (go_at_call 31; (with_reducible refine (impl_codeOk _ _).mono ?_); rintro e w9 ⟨rfl, hw9⟩; have hw9x := hw9.symm; clear hw9; subst hw9x))
    go_ret
    exact ⟨by rw [HP.out, if_neg HN.out]; rfl, by repeat (first | exact Below.refl _ _ | exact Joins.below_alloc1 _ _)⟩
  by_cases c1 : inR 0 11 b = true
  case neg =>
    have e1 : inR 0 11 b = false := by simpa using c1
    have HN : Hid (¬recOk a b c d) := Lib.hid (fun h => c1 h.2.1)
    clear c1
    go_enter Tryd.func11, Tryd.ntmps11
    go_wp2_with (first | (go_at_call 30; (with_reducible refine (impl_within _ _ _ _).mono ?_); rintro e w9 ⟨rfl, hw9⟩; have hw9x := hw9.symm; clear hw9; subst hw9x) | (go_at_call 31; (with_reducible refine (impl_codeOk _ _).mono ?_); rintro e w9 ⟨rfl, hw9⟩; have hw9x := hw9.symm; clear hw9; subst hw9x))
    go_ret
    exact ⟨by rw [HP.out, if_neg HN.out]; rfl, by repeat (first | exact Below.refl _ _ | exact Joins.below_alloc1 _ _)⟩
  by_cases c2 : inR (-32767) 32767 c = true
  case neg =>
    have e2 : inR (-32767) 32767 c = false := by simpa using c2
    have HN : Hid (¬recOk a b c d) := Lib.hid (fun h => c2 h.2.2.1)
    clear c2
    go_enter Tryd.func11, Tryd.ntmps11
    go_wp2_with (first | (go_at_call 30; (with_reducible refine (impl_within _ _ _ _).mono ?_); rintro e w9 ⟨rfl, hw9⟩; have hw9x := hw9.symm; clear hw9; subst hw9x) | (go_at_call 31; (with_reducible refine (impl_codeOk _ _).mono ?_); rintro e w9 ⟨rfl, hw9⟩; have hw9x := hw9.symm; clear hw9; subst hw9x))
    go_ret
    exact ⟨by rw [HP.out, if_neg HN.out]; rfl, by repeat (first | exact Below.refl _ _ | exact Joins.below_alloc1 _ _)⟩
  by_cases c3 : inR (-32767) 32767 d = true
  case neg =>
    have e3 : inR (-32767) 32767 d = false := by simpa using c3
    have HN : Hid (¬recOk a b c d) := Lib.hid (fun h => c3 h.2.2.2)
    clear c3
    go_enter Tryd.func11, Tryd.ntmps11
    go_wp2_with (first | (go_at_call 30; (with_reducible refine (impl_within _ _ _ _).mono ?_); rintro e w9 ⟨rfl, hw9⟩; have hw9x := hw9.symm; clear hw9; subst hw9x) | (go_at_call 31; (with_reducible refine (impl_codeOk _ _).mono ?_); rintro e w9 ⟨rfl, hw9⟩; have hw9x := hw9.symm; clear hw9; subst hw9x))
    go_ret
    exact ⟨by rw [HP.out, if_neg HN.out]; rfl, by repeat (first | exact Below.refl _ _ | exact Joins.below_alloc1 _ _)⟩
  have HO : Hid (recOk a b c d) := Lib.hid ⟨c0, c1, c2, c3⟩
  go_enter Tryd.func11, Tryd.ntmps11
  go_wp2_with (first | (go_at_call 30; (with_reducible refine (impl_within _ _ _ _).mono ?_); rintro e w9 ⟨rfl, hw9⟩; have hw9x := hw9.symm; clear hw9; subst hw9x) | (go_at_call 31; (with_reducible refine (impl_codeOk _ _).mono ?_); rintro e w9 ⟨rfl, hw9⟩; have hw9x := hw9.symm; clear hw9; subst hw9x))
  go_region_held3 (fun W => (Below (boxR w a b c d).heap.size (boxR w a b c d) W ∧ W.cell? ⟨w.heap.size, 0, none⟩ = some (.int .i64 a) ∧ W.cell? ⟨w.heap.size, 1, none⟩ = some (.int .i64 b) ∧ W.cell? ⟨w.heap.size, 2, none⟩ = some (.int .i64 c) ∧ W.cell? ⟨w.heap.size, 3, none⟩ = some (.int .i64 d))) (exact keepR (by repeat (first | (with_reducible exact Below.refl _ _) | (with_reducible refine Below.drew ?_) | (with_reducible refine on_call ?_ (by assumption))))) (first | (go_at_call 32; go_split_ands; (with_reducible refine (implFormatInt a ha0 ha1 _ (tab_box htab (by repeat (first | (with_reducible exact Below.refl _ _) | (with_reducible refine Below.drew ?_) | (with_reducible refine on_call ?_ (by assumption)))))).mono ?_); rintro e w1 ⟨rfl, bl1⟩) | (go_at_call 32; go_split_ands; (with_reducible refine (implFormatInt b hb0 hb1 _ (tab_box htab (by repeat (first | (with_reducible exact Below.refl _ _) | (with_reducible refine Below.drew ?_) | (with_reducible refine on_call ?_ (by assumption)))))).mono ?_); rintro e w2 ⟨rfl, bl2⟩) | (go_at_call 32; go_split_ands; (with_reducible refine (implFormatInt c hc0 hc1 _ (tab_box htab (by repeat (first | (with_reducible exact Below.refl _ _) | (with_reducible refine Below.drew ?_) | (with_reducible refine on_call ?_ (by assumption)))))).mono ?_); rintro e w3 ⟨rfl, bl3⟩) | (go_at_call 32; go_split_ands; (with_reducible refine (implFormatInt d hd0 hd1 _ (tab_box htab (by repeat (first | (with_reducible exact Below.refl _ _) | (with_reducible refine Below.drew ?_) | (with_reducible refine on_call ?_ (by assumption)))))).mono ?_); rintro e w4 ⟨rfl, bl4⟩))
  go_wp2
  go_ret
  refine ⟨?_, ?_⟩
  · rw [HP.out, if_pos HO.out]
    show Ending.returned (Value.string (((((((⟨(itoa a).toArray⟩ : ByteArray) ++ (⟨[32].toArray⟩ : ByteArray)) ++ (⟨(itoa b).toArray⟩ : ByteArray)) ++ (⟨[32].toArray⟩ : ByteArray)) ++ (⟨(itoa c).toArray⟩ : ByteArray)) ++ (⟨[32].toArray⟩ : ByteArray)) ++ (⟨(itoa d).toArray⟩ : ByteArray))) = _
    rw [cat, cat, cat, cat, cat, cat]
  · repeat (first | (with_reducible exact Joins.below_alloc1 _ _) | (with_reducible refine Below.drew ?_) | (with_reducible refine on_call ?_ (by assumption)))
end Go.Proofs.YtldcciipicnooaaDoor
