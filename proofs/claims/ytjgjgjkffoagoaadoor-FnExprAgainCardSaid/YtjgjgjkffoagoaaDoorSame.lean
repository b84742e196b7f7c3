/- The laws' sameNodes at two rows of the same drawn nodes. No condition but that the nodes are good. -/
import Derived.Test.YtjgjgjkffoagoaaDoorFmA
namespace Go.Proofs.YtjgjgjkffoagoaaDoor
open Go.RowKit
attribute [local go_sem] run_store_float run_store_complex
set_option maxRecDepth 100000
set_option maxHeartbeats 1000000
set_option linter.unusedVariables false
set_option linter.unusedSimpArgs false

theorem same64_self (x : Nat) (w : World) (h : FinW x) : Calls Tryd.prog 44 #[.float .f64 x, .float .f64 x] w fun e w' => e = .returned (.bool true) ∧ ∃ n, w' = w.drewN n := by
  have h0 : (FloatKind.f64.format.order x x == some .eq) = true := by rw [h.order]; rfl
  have h1 : (FloatKind.f64.format.order x x != some .eq) = false := by rw [h.order]; rfl
  go_enter Tryd.func44, Tryd.ntmps44
  cases h2 : (FloatKind.f64.format.order x 0 != some .eq)
  · go_wp2_with (first | (refine wpl_farith 29 rfl rfl rfl rfl rfl rfl ?_; intro r1 n1 hr1) | (refine wpl_farith 31 rfl rfl rfl rfl rfl rfl ?_; intro r2 n2 hr2; have h3 := quo_self h h2 hr1.out.1 hr2.out.1))
    go_ret
    exact ⟨rfl, _, rfl⟩
  · go_wp2
    go_ret
    exact ⟨rfl, 0, (World.drewN_zero _).symm⟩
theorem sameL_self (z : Nat × Nat) (w : World) (h1 : FinW z.1) (h2 : FinW z.2) : Calls Tryd.prog 26 #[zv z, zv z] w fun e w' => e = .returned (.bool true) ∧ ∃ n, w' = w.drewN n := by
  go_enter Tryd.func26, Tryd.ntmps26
  go_wp2_with (first | (go_at_call 44; (with_reducible refine (same64_self z.1 _ h1).mono ?_); rintro e w1 ⟨rfl, n1, hw⟩; subst hw) | (go_at_call 44; (with_reducible refine (same64_self z.2 _ h2).mono ?_); rintro e w1 ⟨rfl, n2, hw⟩; subst hw))
  go_ret
  exact ⟨rfl, _, rfl⟩
theorem good_fin {x : Nd} (h : GoodN x) : FinW x.re ∧ FinW x.im := by
  rcases h with ⟨_, _, hv⟩ | ⟨_, _, h1, h2⟩ | ⟨_, _, h1, h2⟩
  · exact ⟨hv.both.1.fin.1, hv.both.2.fin.1⟩
  · rw [h1, h2]; exact ⟨FinW.zero, FinW.zero⟩
  · rw [h1, h2]; exact ⟨FinW.zero, FinW.zero⟩
theorem sameNodes_self (l : List Nd) (v u : Value) (w : World) (hv : NView w v l) (hu : NView w u l) (hl : l.length ≤ 60) (hg : ∀ x ∈ l, GoodN x) :
    Calls Tryd.prog 10 #[v, u] w fun e w' => e = .returned (.bool true) ∧ ∃ n, w' = w.drewN n := by
  obtain ⟨g, cap, rfl, hgw, hc⟩ := hv
  obtain ⟨g', cap', rfl, hgw', hc'⟩ := hu
  have HC := Lib.hid hc
  have HC' := Lib.hid hc'
  clear hc hc'
  have d0 : ((l.length : Int) != (l.length : Int)) = false := by simp
  go_enter Tryd.func10, Tryd.ntmps10
  go_wp2
  go_loopw [5] (fun i wr => ∃ k n : Nat, i = .int .i64 k ∧ k ≤ l.length ∧ wr = w.drewN n) (fun i _ => l.length - (RowKit.intOf i).toNat)
  case atStart => exact ⟨0, 0, rfl, Nat.zero_le _, (World.drewN_zero _).symm⟩
  case round =>
    obtain ⟨k, n, rfl, hk, hw⟩ := hrel
    have HW := Lib.hid hw
    have HCW : Hid (NCells wr g l) := Lib.hid (by rw [hw]; exact HC.out)
    have HCW' : Hid (NCells wr g' l) := Lib.hid (by rw [hw]; exact HC'.out)
    clear hw
    by_cases hkl : k < l.length
    · have ck : decide ((k : Int) < (l.length : Int)) = true := decide_eq_true (by omega)
      have ck2 : (k : Int) < (l.length : Int) := by omega
      obtain ⟨x0, x1, x2⟩ := HCW.out k hkl
      obtain ⟨y0, y1, y2⟩ := HCW'.out k hkl
      obtain ⟨hf1, hf2⟩ := good_fin (hg _ (List.getElem_mem hkl))
      have HS : Hid (∀ W, Calls Tryd.prog 26 #[.complex .f64 l[k].re l[k].im, .complex .f64 l[k].re l[k].im] W fun e w' => e = .returned (.bool true) ∧ ∃ n, w' = W.drewN n) := Lib.hid (fun W => sameL_self (l[k].re, l[k].im) W hf1 hf2)
      clear hf1 hf2
      go_wp2
      go_quiet ((go_at_call 26; exact Calls.quiet_of (HS.out _)))
      go_wp2
      case roundEnd => exact ⟨⟨k + 1, n + nq, by simp, by omega, by rw [HW.out, World.drewN_drewN]⟩, by simp [RowKit.intOf]; omega⟩
    · have ck : decide ((k : Int) < (l.length : Int)) = false := decide_eq_false (by omega)
      go_wp2
      go_ret
      exact ⟨rfl, n, HW.out⟩
end Go.Proofs.YtjgjgjkffoagoaaDoor
