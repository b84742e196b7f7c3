/- The reference's NodeOk and ExprOk at what is read: good nodes, an expression of at most 60 of them. No condition but these. -/
import Derived.Test.YtjgjgjkffoagoaaDoorRzP
import Derived.Test.YtjgjgjkffoagoaaDoorEx
namespace Go.Proofs.YtjgjgjkffoagoaaDoor
open Go.RowKit
attribute [local go_sem] run_store_float run_store_complex
set_option maxRecDepth 100000
set_option maxHeartbeats 4000000
set_option linter.unusedVariables false
set_option linter.unusedSimpArgs false

theorem nodeOkP_oth (k s : Int) (h : (k = 2 ∧ 0 ≤ s ∧ s ≤ 9) ∨ (3 ≤ k ∧ k ≤ 12 ∧ s = 0)) (w : World) :
    Calls Tryd.prog 49 #[ndV ⟨k, s, 0, 0⟩] w fun e w' => e = .returned (.bool true) ∧ Below w.heap.size w w' := by
  have h1 : (decide (1 ≤ k) && decide (k ≤ 12)) = true := by simp; omega
  have h2 : (decide (0 ≤ s) && decide (s ≤ 9)) = true := by simp; omega
  have h3 : (k == 1) = false := beq_eq_false_iff_ne.2 (by omega)
  have h4 : (k != 1) = true := by unfold bne; rw [h3]; rfl
  go_enter Tryd.func49, Tryd.ntmps49
  rcases h with ⟨rfl, hs⟩ | ⟨hk, hk', rfl⟩
  · go_wp2_with (first | (go_at_call 48; (with_reducible refine (l01In_is _ _ _ true _ (by decide)).mono ?_); rintro e w1 ⟨rfl, hw⟩; subst hw) | (go_at_call 48; (with_reducible refine (l01In_is _ _ _ true _ h2).mono ?_); rintro e w1 ⟨rfl, hw⟩; subst hw) | (go_at_call 69; (with_reducible refine (sameC_selfS _ _ _ FinW.zero FinW.zero).mono ?_); rintro e w1 ⟨rfl, n3, hw⟩; subst hw))
    go_ret
    exact ⟨rfl, by repeat (first | exact Below.refl _ _ | assumption | refine bl_drewN ?_ _ | refine bl_drew ?_ | refine bl_alloc ?_ _ | refine bl_set ?_ (by first | (simp; done) | (simp; omega) | omega | (simp [World.setCell]; done) | (simp [World.setCell]; omega)) _ | refine bl_call ?_ (by assumption))⟩
  · have h5 : (k == 2) = false := beq_eq_false_iff_ne.2 (by omega)
    have h6 : (k != 2) = true := by unfold bne; rw [h5]; rfl
    go_wp2_with (first | (go_at_call 48; (with_reducible refine (l01In_is _ _ _ true _ h1).mono ?_); rintro e w1 ⟨rfl, hw⟩; subst hw) | (go_at_call 48; (with_reducible refine (l01In_is _ _ _ true _ (by decide)).mono ?_); rintro e w1 ⟨rfl, hw⟩; subst hw) | (go_at_call 69; (with_reducible refine (sameC_selfS _ _ _ FinW.zero FinW.zero).mono ?_); rintro e w1 ⟨rfl, n3, hw⟩; subst hw))
    go_ret
    exact ⟨rfl, by repeat (first | exact Below.refl _ _ | assumption | refine bl_drewN ?_ _ | refine bl_drew ?_ | refine bl_alloc ?_ _ | refine bl_set ?_ (by first | (simp; done) | (simp; omega) | omega | (simp [World.setCell]; done) | (simp [World.setCell]; omega)) _ | refine bl_call ?_ (by assumption))⟩
theorem nodeOkP (x : Nd) (h : GoodP x) (w : World) :
    Calls Tryd.prog 49 #[ndV x] w fun e w' => e = .returned (.bool true) ∧ Below w.heap.size w w' := by
  obtain ⟨k, s, re, im⟩ := x
  rcases h with ⟨h1, h2, h3⟩ | ⟨h1, h2, h3, h4⟩ | ⟨h1, h2, h3, h4⟩
  · simp only at h1 h2 h3
    subst h1 h2
    exact nodeOkS_num re im h3 w
  · simp only at h1 h2 h3 h4
    subst h3 h4
    exact nodeOkP_oth k s (Or.inl ⟨h1, h2.1, h2.2⟩) w
  · simp only at h1 h2 h3 h4
    subst h3 h4
    exact nodeOkP_oth k s (Or.inr ⟨h1.1, h1.2, h2⟩) w
def EoRel (l : List Nd) (w : World) (n i : Value) (wr : World) : Prop :=
  ∃ k m : Nat, i = .int .i64 k ∧ n = .int .i64 m ∧ k ≤ l.length ∧ hrun 0 (l.take k) = some m ∧ Below w.heap.size w wr
theorem eo_next {l : List Nd} {w W : World} {k m a : Nat} (hk : k < l.length) (ham : a ≤ m) (hr : hrun 0 (l.take (k + 1)) = some (m + 1 - a)) (hb : Below w.heap.size w W) :
    EoRel l w (.int .i64 ((m : Int) - (a : Int) + 1)) (.int .i64 ((k : Int) + 1)) W ∧ l.length - (RowKit.intOf (.int .i64 ((k : Int) + 1))).toNat < l.length - (RowKit.intOf (.int .i64 (k : Int))).toNat := by
  have e : (m : Int) - (a : Int) + 1 = ((m + 1 - a : Nat) : Int) := by omega
  rw [e]
  exact ⟨⟨k + 1, m + 1 - a, by simp, rfl, hk, hr, hb⟩, by simp [RowKit.intOf]; omega⟩
theorem exprOkP_any (l : List Nd) (v : Value) (w : World) (hv : NView w v l) (hl : 1 ≤ l.length ∧ l.length ≤ 60) (hg : ∀ x ∈ l, GoodP x) (hex : IsEx l) :
    Calls Tryd.prog 29 #[v] w fun e w' => e = .returned (.bool true) ∧ Below w.heap.size w w' := by
  obtain ⟨g, cap, rfl, hgw, hcells⟩ := hv
  have HC := Lib.hid hcells
  clear hcells
  have hd : (decide ((1 : Int) ≤ l.length) && decide ((l.length : Int) ≤ 60)) = true := by simp; omega
  have HD := Lib.hid hd
  clear hd
  go_enter Tryd.func29, Tryd.ntmps29
  go_wp2_with (go_at_call 48; (with_reducible refine (l01In_is _ _ _ true _ HD.out).mono ?_); rintro e w1 ⟨rfl, hw⟩; have hw := hw.symm; subst hw)
  go_loopw [3, 4] (fun n i wr => EoRel l w n i wr) (fun _ i _ => l.length - (RowKit.intOf i).toNat)
  case atStart => exact ⟨0, 0, rfl, rfl, Nat.zero_le _, rfl, Below.refl _ _⟩
  case round =>
    obtain ⟨k, m, rfl, rfl, hk, hrn, hb⟩ := hrel
    have HB := Lib.hid hb
    clear hb
    by_cases hkl : k < l.length
    · have ck : decide ((k : Int) < (l.length : Int)) = true := decide_eq_true (by omega)
      obtain ⟨s1, s2, s3, s4, s5⟩ := hrun_step hex hkl hrn
      have hcw : NCells wr g l := HC.out.below HB.out hgw
      have hgr : g < wr.heap.size := Nat.lt_of_lt_of_le hgw HB.out.size
      obtain ⟨x0, x1, x2⟩ := hcw k hkl
      have HCW := Lib.hid hcw
      clear hcw
      go_wp2_with fail
      go_at_call 49
      refine (nodeOkP l[k] (hg _ (List.getElem_mem hkl)) _).mono ?_
      rintro e w2 ⟨rfl, hb2⟩
      obtain ⟨a, ha⟩ : ∃ a, ar l[k].kind = a := ⟨_, rfl⟩
      rw [ha] at s1 s2 s3 s4
      have HA := Lib.hid ha
      clear ha x0 x1 x2
      have HB2 := Lib.hid (HB.out.trans (hb2.mono HB.out.size))
      obtain ⟨y0, y1, y2⟩ := (HCW.out.below hb2 hgr) k hkl
      clear hb2
      have cm : decide ((m : Int) < (a : Int)) = false := decide_eq_false (by omega)
      have hm60 : m ≤ 60 := by omega
      have HN := Lib.hid (eo_next hkl s1 s2 HB2.out)
      go_wp2_with (go_at_call 50; (with_reducible refine (takes_is _ _ _ HA.out).mono ?_); rintro e w3 ⟨rfl, hw⟩; have hw := hw.symm; subst hw)
      case roundEnd => exact HN.out
    · have ck : decide ((k : Int) < (l.length : Int)) = false := decide_eq_false (by omega)
      obtain rfl := hrun_end hex hkl hrn
      go_wp2
      go_ret
      exact ⟨rfl, HB.out⟩
end Go.Proofs.YtjgjgjkffoagoaaDoor
