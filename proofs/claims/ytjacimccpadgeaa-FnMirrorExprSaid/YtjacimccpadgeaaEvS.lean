/- The reference's ExprOk at a drawn expression. Conditions: drawn nodes, an expression of at most 60 of them. -/
import Derived.Test.YtjacimccpadgeaaEvX
namespace Go.Proofs.Ytjacimccpadgeaa
open Go.RowKit
attribute [local go_sem] run_store_float run_store_complex
attribute [local go_sem] run_neg_float run_neg_complex
set_option maxRecDepth 100000
set_option maxHeartbeats 4000000
set_option linter.unusedVariables false
set_option linter.unusedSimpArgs false

/-- The loop's relation. -/
def EoRel (l : List Nd) (w : World) (n i : Value) (wr : World) : Prop :=
  ∃ k m : Nat, i = .int .i64 k ∧ n = .int .i64 m ∧ k ≤ l.length ∧ hrun 0 (l.take k) = some m ∧ Below w.heap.size w wr
theorem eo_next {l : List Nd} {w W : World} {k m a : Nat} (hk : k < l.length) (ham : a ≤ m) (hr : hrun 0 (l.take (k + 1)) = some (m + 1 - a)) (hb : Below w.heap.size w W) :
    EoRel l w (.int .i64 ((m : Int) - (a : Int) + 1)) (.int .i64 ((k : Int) + 1)) W ∧ l.length - (RowKit.intOf (.int .i64 ((k : Int) + 1))).toNat < l.length - (RowKit.intOf (.int .i64 (k : Int))).toNat := by
  have e : (m : Int) - (a : Int) + 1 = ((m + 1 - a : Nat) : Int) := by omega
  rw [e]
  exact ⟨⟨k + 1, m + 1 - a, by simp, rfl, hk, hr, hb⟩, by simp [RowKit.intOf]; omega⟩
theorem exprOkS_any (l : List Nd) (v : Value) (w : World) (hv : NView w v l) (hl : 1 ≤ l.length ∧ l.length ≤ 60) (hg : ∀ x ∈ l, GoodN x) (hex : IsEx l) :
    Calls Try.prog 20 #[v] w fun e w' => e = .returned (.bool true) ∧ Below w.heap.size w w' := by
  obtain ⟨g, cap, rfl, hgw, hcells⟩ := hv
  have HC := Lib.hid hcells
  clear hcells
  have hd : (decide ((1 : Int) ≤ l.length) && decide ((l.length : Int) ≤ 60)) = true := by simp; omega
  have HD := Lib.hid hd
  clear hd
  go_enter Try.func20, Try.ntmps20
  go_wp2_with (go_at_call 40; (with_reducible refine (l01In_is _ _ _ true _ HD.out).mono ?_); rintro e w1 ⟨rfl, hw⟩; have hw := hw.symm; subst hw)
  go_loopw [3, 4] (fun n i wr => EoRel l w n i wr) (fun _ i _ => l.length - (RowKit.intOf i).toNat)
  case atStart => exact ⟨0, 0, rfl, rfl, Nat.zero_le _, rfl, Below.refl _ _⟩
  case round =>
    obtain ⟨k, m, rfl, rfl, hk, hrn, hb⟩ := hrel
    have HB := Lib.hid hb
    clear hb
    by_cases hkl : k < l.length
    · have ck : decide ((k : Int) < (l.length : Int)) = true := decide_eq_true (by omega)
      obtain ⟨s1, s2, s3, s4, s5⟩ := hrun_step hex hkl hrn
      have hcw : NCells wr g l := HC.out.below HB.out hgw
      have hgr : g < wr.heap.size := Nat.lt_of_lt_of_le hgw HB.out.size
      obtain ⟨x0, x1, x2⟩ := hcw k hkl
      have HCW := Lib.hid hcw
      clear hcw
      go_wp2_with fail
      go_at_call 41
      refine (nodeOkS l[k] (hg _ (List.getElem_mem hkl)) _).mono ?_
      rintro e w2 ⟨rfl, hb2⟩
      obtain ⟨a, ha⟩ : ∃ a, ar l[k].kind = a := ⟨_, rfl⟩
      rw [ha] at s1 s2 s3 s4
      have HA := Lib.hid ha
      clear ha x0 x1 x2
      have HB2 := Lib.hid (HB.out.trans (hb2.mono HB.out.size))
      obtain ⟨y0, y1, y2⟩ := (HCW.out.below hb2 hgr) k hkl
      clear hb2
      have cm : decide ((m : Int) < (a : Int)) = false := decide_eq_false (by omega)
      have hm60 : m ≤ 60 := by omega
      have HN := Lib.hid (eo_next hkl s1 s2 HB2.out)
      go_wp2_with (go_at_call 25; (with_reducible refine (takes_is _ _ _ HA.out).mono ?_); rintro e w3 ⟨rfl, hw⟩; have hw := hw.symm; subst hw)
      case roundEnd => exact HN.out
    · have ck : decide ((k : Int) < (l.length : Int)) = false := decide_eq_false (by omega)
      obtain rfl := hrun_end hex hkl hrn
      go_wp2
      go_ret
      exact ⟨rfl, HB.out⟩
end Go.Proofs.Ytjacimccpadgeaa
