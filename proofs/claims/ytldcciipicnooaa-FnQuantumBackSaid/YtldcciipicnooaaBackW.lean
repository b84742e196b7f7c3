/- The walk of InUnits of the program, at a good unit and a number up to a million. -/
import Derived.Test.YtldcciipicnooaaBack
namespace Go.Proofs.Ytldcciipicnooaa
open Go.RowKit

/-- InUnits comes back, and what it calls a number is told back by QuantumOf. -/
def InEnd (n : Int) (u : Nat × Bool) (w : World) (en : Ending) (w' : World) : Prop := ∃ x ok, en = .returned (.tuple #[.float .f32 x, .bool ok]) ∧ (ok = true → quantF x u = (n, true)) ∧ Below w.heap.size w w'

theorem quantumOk_is (n : Int) (bb : Bool) (w : World) (h : (decide ((-1000000000 : Int) ≤ n) && decide (n ≤ 1000000000)) = bb) :
    Calls Try.prog 74 #[.int .i64 n] w fun e w' => e = .returned (.bool bb) ∧ w' = w := by
  have H := Lib.hid h
  clear h
  go_enter Try.func74, Try.ntmps74
  go_wp2_with (go_at_call 50; (with_reducible refine (within_is _ _ _ _ _ H.out).mono ?_); rintro e w8 ⟨rfl, hw9⟩; have hw9x := hw9.symm; clear hw9; subst hw9x)
  go_ret
  exact ⟨rfl, rfl⟩
set_option maxRecDepth 100000 in
theorem inUnitsI_back (n : Int) (s : ByteArray) (m e : Int) (w : World) (hn : n.natAbs ≤ 1000000) (hs : s.toList = [43] ∨ s.toList = [45]) (h1 : 1 ≤ m) (h2 : m ≤ 16777215) (h3 : -149 ≤ e) (h4 : e ≤ 60) :
    Calls Try.prog 43 #[.int .i64 n, .agg #[.string s, .int .i64 m, .int .i64 e]] w (InEnd n (unitF s.toList m e) w) := by
  obtain ⟨v, hu, u1, u2, u3⟩ := unit_good hs h1 h2 h3 h4
  rw [hu]
  have HU := Lib.hid hu
  have HV := Lib.hid (And.intro u1 (And.intro u2 u3))
  have hT : (decide ((-1000000000 : Int) ≤ n) && decide (n ≤ 1000000000)) = true := by simp; omega
  have HT := Lib.hid hT
  have HM : Hid (m.toNat < 16777216) := Lib.hid (by omega)
  clear hu hT u1 u2 u3 hs
  go_enter Try.func43, Try.ntmps43
  go_wp2_with (first | (go_at_call 37; (with_reducible refine (unitI_any _ _ _ _).mono ?_); rintro en w' ⟨he, o, n1, hw⟩; rw [HU.out] at he; subst he; subst hw) | (go_at_call 74; (with_reducible refine (quantumOk_is _ _ _ HT.out).mono ?_); rintro e w8 ⟨rfl, hw9⟩; have hw9x := hw9.symm; clear hw9; subst hw9x) | (refine wpl_widen 24 Try.underlying24 Try.underlying39 rfl rfl rfl rfl ?_; intro r2 n2 hr2) | (refine wpl_farith 25 rfl rfl rfl rfl rfl rfl ?_; intro r3 n3 hr3) | (refine wpl_narrow 26 Try.underlying39 Try.underlying24 rfl rfl rfl rfl ?_; intro r4 n4 hr4; have HB : Hid (quantF r4 (v, true) = (n, true)) := Lib.hid (back_law hn HV.out.1 HV.out.2.1 HV.out.2.2 HM.out h3 h4 hr2.out.1 hr3.out.1 hr4.out.1)) | (go_at_call 64; (with_reducible refine (finiteSingle_any _ _).mono ?_); rintro e w9 ⟨rfl, n9, rfl⟩))
  all_goals
    go_ret2
    first | exact ⟨_, _, rfl, fun h => absurd h (by decide), by repeat (first | exact Below.refl _ _ | assumption | refine bl_drewN ?_ _ | refine bl_drew ?_ | refine bl_alloc ?_ _ | refine bl_set ?_ (by first | (simp; done) | (simp; omega) | omega | (simp [World.setCell]; done) | (simp [World.setCell]; omega)) _ | refine bl_call ?_ (by assumption))⟩ | exact ⟨_, _, rfl, fun _ => HB.out, by repeat (first | exact Below.refl _ _ | assumption | refine bl_drewN ?_ _ | refine bl_drew ?_ | refine bl_alloc ?_ _ | refine bl_set ?_ (by first | (simp; done) | (simp; omega) | omega | (simp [World.setCell]; done) | (simp [World.setCell]; omega)) _ | refine bl_call ?_ (by assumption))⟩
end Go.Proofs.Ytldcciipicnooaa
