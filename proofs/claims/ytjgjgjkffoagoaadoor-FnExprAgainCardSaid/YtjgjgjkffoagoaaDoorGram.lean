/- The text of an expression is read as this expression: plain laws on the reader's function. No program in sight. -/
import Derived.Test.YtjgjgjkffoagoaaDoorRdF
import Derived.Test.YtjgjgjkffoagoaaDoorRdG
namespace Go.Proofs.YtjgjgjkffoagoaaDoor
open Go.RowKit
set_option maxRecDepth 100000
set_option maxHeartbeats 1000000
set_option linter.unusedVariables false
set_option linter.unusedSimpArgs false

/-! ### More breath -/
theorem thenP_mono {X X' : Option (Option St)} {g g' : Nat → List Nd → Option (Option St)} {r : Option St} (h : thenP X g = some r) (hX : ∀ x, X = some x → X' = some x) (hg : ∀ i o r, g i o = some r → g' i o = some r) : thenP X' g' = some r := by
  obtain ⟨x, hx, hor⟩ := thenP_some h
  rw [hX x hx]
  rcases hor with ⟨h1, h2⟩ | ⟨i2, o2, h1, h2⟩
  · subst h1 h2; rfl
  · subst h1; exact hg i2 o2 r h2
theorem prs_succ (s : List UInt8) : ∀ f md i out r, prs s f md i out = some r → prs s (f + 1) md i out = some r
  | 0, md, i, out, r, h => by cases h
  | f + 1, .lev n, i, out, r, h => by
    have ih := prs_succ s f
    have h2 : (if n = 3 then prs s f .fac i out else thenP (prs s f (.lev (n + 1)) i out) (fun i o => prs s f (.loop n) i o)) = some r := h
    show (if n = 3 then prs s (f + 1) .fac i out else thenP (prs s (f + 1) (.lev (n + 1)) i out) (fun i o => prs s (f + 1) (.loop n) i o)) = some r
    split at h2
    · rename_i hn; rw [if_pos hn]; exact ih _ _ _ _ h2
    · rename_i hn; rw [if_neg hn]; exact thenP_mono h2 (fun x hx => ih _ _ _ _ hx) (fun i o r hr => ih _ _ _ _ hr)
  | f + 1, .loop n, i, out, r, h => by
    have ih := prs_succ s f
    have h2 : (match opK n s[skip s i]? with
      | none => some (some (skip s i, out))
      | some k => thenP (prs s f (.lev (n + 1)) (skip s i + 1) out) (fun i o => prs s f (.loop n) i (o ++ [nd k]))) = some r := h
    show (match opK n s[skip s i]? with
      | none => some (some (skip s i, out))
      | some k => thenP (prs s (f + 1) (.lev (n + 1)) (skip s i + 1) out) (fun i o => prs s (f + 1) (.loop n) i (o ++ [nd k]))) = some r
    cases hq : opK n s[skip s i]? with
    | none => rw [hq] at h2; exact h2
    | some k => rw [hq] at h2; exact thenP_mono h2 (fun x hx => ih _ _ _ _ hx) (fun i o r hr => ih _ _ _ _ hr)
  | f + 1, .fac, i, out, r, h => by
    have ih := prs_succ s f
    obtain ⟨g, hg, h2⟩ : ∃ g, g = f ∧ (if stands s i [43] then thenP (prs s g .fac (skip s i + 1) out) (fun i o => some (some (i, o ++ [nd 3])))
      else if stands s i [45] then thenP (prs s g .fac (skip s i + 1) out) (fun i o => some (some (i, o ++ [nd 4])))
      else if stands s i [40] then thenP (prs s g (.lev 0) (skip s i + 1) out) (shutP s [])
      else if stands s i [99, 111, 110, 106] then prs s g (.word 5) (skip s i + 4) out
      else if stands s i [114, 101] then prs s g (.word 6) (skip s i + 2) out
      else if stands s i [105, 109] then prs s g (.word 7) (skip s i + 2) out
      else if stands s i [115] then some (slotP s (skip s i + 1) out)
      else some (numF s (skip s i) out)) = some r := ⟨f, rfl, h⟩
    show (if stands s i [43] then thenP (prs s (f + 1) .fac (skip s i + 1) out) (fun i o => some (some (i, o ++ [nd 3])))
      else if stands s i [45] then thenP (prs s (f + 1) .fac (skip s i + 1) out) (fun i o => some (some (i, o ++ [nd 4])))
      else if stands s i [40] then thenP (prs s (f + 1) (.lev 0) (skip s i + 1) out) (shutP s [])
      else if stands s i [99, 111, 110, 106] then prs s (f + 1) (.word 5) (skip s i + 4) out
      else if stands s i [114, 101] then prs s (f + 1) (.word 6) (skip s i + 2) out
      else if stands s i [105, 109] then prs s (f + 1) (.word 7) (skip s i + 2) out
      else if stands s i [115] then some (slotP s (skip s i + 1) out)
      else some (numF s (skip s i) out)) = some r
    subst hg
    by_cases c0 : stands s i [43] = true
    · rw [if_pos c0] at h2 ⊢
      exact thenP_mono h2 (fun x hx => ih _ _ _ _ hx) (fun _ _ _ hr => hr)
    rw [if_neg c0] at h2 ⊢
    by_cases c1 : stands s i [45] = true
    · rw [if_pos c1] at h2 ⊢
      exact thenP_mono h2 (fun x hx => ih _ _ _ _ hx) (fun _ _ _ hr => hr)
    rw [if_neg c1] at h2 ⊢
    by_cases c2 : stands s i [40] = true
    · rw [if_pos c2] at h2 ⊢
      exact thenP_mono h2 (fun x hx => ih _ _ _ _ hx) (fun _ _ _ hr => hr)
    rw [if_neg c2] at h2 ⊢
    by_cases c3 : stands s i [99, 111, 110, 106] = true
    · rw [if_pos c3] at h2 ⊢
      exact ih _ _ _ _ h2
    rw [if_neg c3] at h2 ⊢
    by_cases c4 : stands s i [114, 101] = true
    · rw [if_pos c4] at h2 ⊢
      exact ih _ _ _ _ h2
    rw [if_neg c4] at h2 ⊢
    by_cases c5 : stands s i [105, 109] = true
    · rw [if_pos c5] at h2 ⊢
      exact ih _ _ _ _ h2
    rw [if_neg c5] at h2 ⊢
    exact h2
  | f + 1, .word k, i, out, r, h => by
    have ih := prs_succ s f
    have h2 : (if stands s i [40] then thenP (prs s f (.lev 0) (skip s i + 1) out) (shutP s [nd k]) else some none) = some r := h
    show (if stands s i [40] then thenP (prs s (f + 1) (.lev 0) (skip s i + 1) out) (shutP s [nd k]) else some none) = some r
    split at h2
    · rename_i hq; rw [if_pos hq]; exact thenP_mono h2 (fun x hx => ih _ _ _ _ hx) (fun _ _ _ hr => hr)
    · rename_i hq; rw [if_neg hq]; exact h2
theorem prs_le {s : List UInt8} {f g : Nat} (hfg : f ≤ g) {md : Md} {i : Nat} {out : List Nd} {r : Option St} (h : prs s f md i out = some r) : prs s g md i out = some r := by
  induction g with
  | zero => have : f = 0 := by omega
            subst this; exact h
  | succ g ih =>
    rcases Nat.lt_or_ge g f with h1 | h1
    · have : f = g + 1 := by omega
      subst this; exact h
    · exact prs_succ s g md i out r (ih h1)
/-- Some breath is enough. -/
def Pr (s : List UInt8) (md : Md) (i : Nat) (out : List Nd) (r : Option St) : Prop := ∃ f, prs s f md i out = some r
section
variable {s : List UInt8} {i i' : Nat} {out o : List Nd} {r : Option St} {n : Nat}
theorem Pr.lev3 (h : Pr s .fac i out r) : Pr s (.lev 3) i out r := by
  obtain ⟨f, h⟩ := h
  exact ⟨f + 1, h⟩
theorem Pr.lev (hn : n ≠ 3) (h : Pr s (.lev (n + 1)) i out (some (i', o))) (h2 : Pr s (.loop n) i' o r) : Pr s (.lev n) i out r := by
  obtain ⟨f, h⟩ := h
  obtain ⟨g, h2⟩ := h2
  refine ⟨max f g + 1, ?_⟩
  show (if n = 3 then _ else thenP (prs s (max f g) (.lev (n + 1)) i out) (fun i o => prs s (max f g) (.loop n) i o)) = some r
  rw [if_neg hn, prs_le (Nat.le_max_left f g) h]
  exact prs_le (Nat.le_max_right f g) h2
theorem Pr.loop_end (h : opK n s[skip s i]? = none) : Pr s (.loop n) i out (some (skip s i, out)) := by
  refine ⟨1, ?_⟩
  show (match opK n s[skip s i]? with
      | none => some (some (skip s i, out))
      | some k => thenP (prs s 0 (.lev (n + 1)) (skip s i + 1) out) (fun i o => prs s 0 (.loop n) i (o ++ [nd k]))) = _
  rw [h]
theorem Pr.loop_op {K : Int} (h : opK n s[skip s i]? = some K) (h1 : Pr s (.lev (n + 1)) (skip s i + 1) out (some (i', o))) (h2 : Pr s (.loop n) i' (o ++ [nd K]) r) : Pr s (.loop n) i out r := by
  obtain ⟨f, h1⟩ := h1
  obtain ⟨g, h2⟩ := h2
  refine ⟨max f g + 1, ?_⟩
  show (match opK n s[skip s i]? with
      | none => some (some (skip s i, out))
      | some k => thenP (prs s (max f g) (.lev (n + 1)) (skip s i + 1) out) (fun i o => prs s (max f g) (.loop n) i (o ++ [nd k]))) = _
  rw [h]
  show thenP _ _ = _
  rw [prs_le (Nat.le_max_left f g) h1]
  exact prs_le (Nat.le_max_right f g) h2
end
end Go.Proofs.YtjgjgjkffoagoaaDoor
