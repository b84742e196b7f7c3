/-
  What is proved here: strings.IndexRune in the text "+-" at a rune beyond ASCII: it is not there. No condition.
-/
import Derived.Test.YtldcciipicnooaaDoorPs
import Derived.Shelf.Strings.IndexAny
namespace Go.Proofs.YtldcciipicnooaaDoor
open Go.RowKit Go.Lib Go.Shelf
set_option maxRecDepth 100000
set_option linter.unusedVariables false
set_option linter.unusedSimpArgs false

/-- The text "+-". -/
abbrev pmB : ByteArray := ⟨#[43, 45]⟩

theorem indexRune_bad (w : World) :
    Calls Tryd.prog 57 #[.string pmB, .int .i32 65533] w fun e w' => e = .returned (.int .i64 (-1)) ∧ Below w.heap.size w w' := by
  go_enter Tryd.func57, Tryd.ntmps57
  go_wp2
  go_loopg [5, 6] 2 (fun g _ _ wx => ∃ i : Nat, i + g = 2 ∧ wx = w.iter pmB i)
  case atStart => exact ⟨0, by omega, rfl⟩
  case round =>
    obtain ⟨i, hig, rfl⟩ := hrel
    cases gk with
    | zero =>
      obtain rfl : i = 2 := by omega
      have hnx := run_next_end (P := Tryd.prog) w pmB 2
      go_wp2
      go_ret
      exact ⟨rfl, Below.alloc (Below.refl _ _) (Nat.le_refl _) _⟩
    | succ g =>
      have hi : i < pmB.size := by have : pmB.size = 2 := rfl; omega
      obtain ⟨x, hx⟩ : ∃ x : UInt8, pmB[i]'hi = x := ⟨_, rfl⟩
      have hxx : x.toNat = 43 ∨ x.toNat = 45 := by
        rw [← hx]
        have hc : i = 0 ∨ i = 1 := by omega
        rcases hc with h | h
        · subst h; exact Or.inl rfl
        · subst h; exact Or.inr rfl
      have hnx := fun ty => run_next_ascii (P := Tryd.prog) w pmB i ty hi (by rw [hx]; omega)
      rw [hx] at hnx
      have c0 : ((x.toNat : Int) == 65533) = false := beq_eq_false_iff_ne.2 (by omega)
      go_wp2
      go_roundg g
      case measure => omega
      case rel => exact ⟨i + 1, by omega, rfl⟩

theorem indexRune_far (r : Int) (h0 : 128 ≤ r) (h1 : r ≤ 1114111) (w : World) :
    Calls Tryd.prog 57 #[.string pmB, .int .i32 r] w fun e w' => e = .returned (.int .i64 (-1)) ∧ Below w.heap.size w w' := by
  by_cases hE : r = 65533
  · subst hE; exact indexRune_bad w
  have c0 : decide ((0 : Int) ≤ r) = true := decide_eq_true (by omega)
  have c1 : decide (r < 128) = false := decide_eq_false (by omega)
  have c2 : (r == 65533) = false := beq_eq_false_iff_ne.2 hE
  by_cases hv : Lib.validRune r = true
  · have hv' : Utf8.valid r = true := by
      unfold Lib.validRune at hv
      have h := of_decide_eq_true hv
      unfold Utf8.valid
      by_cases hc : r < 0xD800
      · simp [hc]; omega
      · have e1 : decide (0xE000 ≤ r) = true := decide_eq_true (by omega)
        have e2 : decide (r ≤ 0x10FFFF) = true := decide_eq_true (by omega)
        rw [e1, e2]; simp
    obtain ⟨f1, f2, f3⟩ := encode_facts r hv' h0
    obtain ⟨R, hR⟩ : ∃ R, Utf8.encode r = R := ⟨_, rfl⟩
    rw [hR] at f1 f2
    obtain ⟨n, hn⟩ : ∃ n : Nat, R.size = n + 1 := ⟨R.size - 1, by omega⟩
    have hlt : n < R.size := by omega
    obtain ⟨x, hx⟩ : ∃ x : Nat, (R[n]'hlt).toNat = x := ⟨_, rfl⟩
    have hx128 : 128 ≤ x := by
      subst hR
      have e : (Utf8.encode r).size - 1 = n := by omega
      have := f3 (by omega)
      simp only [e] at this
      rwa [hx] at this
    have hx256 : x < 256 := by rw [← hx]; exact UInt8.toNat_lt _
    have hn1 : 1 ≤ n := by omega
    have hn3 : n ≤ 3 := by omega
    clear f3 f1 f2
    by_cases h1 : n = 1
    · subst h1
      have cx : ((((pmB[1]'(by decide)).toNat : Nat) : Int) != (x : Int)) = true := by
        have e : (pmB[1]'(by decide)).toNat = 45 := rfl
        rw [e]; exact bne_iff_ne.2 (by omega)
      go_enter Tryd.func57, Tryd.ntmps57
      go_wp2_with (first | (go_at_call 77; (with_reducible refine (Tryd.utf8_ValidRune _ _).mono ?_); rintro e w9 ⟨rfl, hw9⟩; have hw9x := hw9.symm; clear hw9; subst hw9x))
      go_step3
      go_wp2
      go_loopw [9] (fun b wr => b = .int .i64 1 ∧ wr = w) (fun _ _ => 0)
      case atStart => exact ⟨rfl, rfl⟩
      case round =>
        obtain ⟨rfl, rfl⟩ := hrel
        go_wp2_with fail
        go_step3
        go_wp2_with fail
        go_region
        go_wp2_with fail
        go_region_with (first | (go_at_call 76; (with_reducible refine (Tryd.strings_IndexByte _ _ _).mono ?_); rintro e w9 ⟨rfl, hw9⟩; have hw9x := hw9.symm; clear hw9; subst hw9x))
        all_goals (have ei : Lib.indexByte [] (UInt8.ofNat x) = -1 := rfl)
        all_goals go_wp2
        all_goals rw [Exit.noGoto_ret]
        all_goals (simp (config := { zetaDelta := true }) only [Exit.inBlock, Exit.then, Exit.noGoto_ret])
        all_goals go_ret
        all_goals exact ⟨rfl, by repeat (first | (with_reducible exact Below.refl _ _) | (with_reducible refine Below.drew ?_))⟩
    · have cn : decide ((n : Int) < 2) = false := decide_eq_false (by omega)
      go_enter Tryd.func57, Tryd.ntmps57
      go_wp2_with (first | (go_at_call 77; (with_reducible refine (Tryd.utf8_ValidRune _ _).mono ?_); rintro e w9 ⟨rfl, hw9⟩; have hw9x := hw9.symm; clear hw9; subst hw9x))
      go_step3
      go_wp2
      go_loopw [9] (fun b wr => b = .int .i64 n ∧ wr = w) (fun _ _ => 0)
      case atStart => exact ⟨rfl, rfl⟩
      case round =>
        obtain ⟨rfl, rfl⟩ := hrel
        go_wp2
        rw [Exit.noGoto_ret]
        go_ret
        exact ⟨rfl, Below.refl _ _⟩
  · have hv' : Lib.validRune r = false := by simpa using hv
    go_enter Tryd.func57, Tryd.ntmps57
    go_wp2_with (first | (go_at_call 77; (with_reducible refine (Tryd.utf8_ValidRune _ _).mono ?_); rintro e w9 ⟨rfl, hw9⟩; have hw9x := hw9.symm; clear hw9; subst hw9x))
    go_ret
    exact ⟨rfl, Below.refl _ _⟩
end Go.Proofs.YtldcciipicnooaaDoor
