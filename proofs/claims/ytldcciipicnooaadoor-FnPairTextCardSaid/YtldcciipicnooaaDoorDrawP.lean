/- What a drawn pair is: two ints between -1000000001 and 1000000001. -/
import Derived.Test.YtldcciipicnooaaDoorCurD
namespace Go.Proofs.YtldcciipicnooaaDoor
open Go.RowKit

set_option maxRecDepth 100000 in
theorem drawPair_any (A : Option Addr) (len cap : Nat) (w : World) (hlen : len ≤ maxLen) (hrow : RowOk w.heap.size w A len) :
    Calls Tryd.prog 15 #[.slice A len cap] w fun e w' => ∃ a b : Int, (-1000000001 ≤ a ∧ a ≤ 1000000001) ∧ (-1000000001 ≤ b ∧ b ≤ 1000000001) ∧ e = .returned (.tuple #[.int .i64 a, .int .i64 b]) ∧ Below w.heap.size w w' := by
  go_enter Tryd.func15, Tryd.ntmps15
  go_wp2_with (first | (go_at_call 36; (with_reducible refine (l01New_any _ _ _ _ hlen hrow).mono ?_); rintro e w1 ⟨rfl, hc1, hb1⟩; have hz1 := hc1.lt) | (go_at_call 38; (with_reducible refine (l01Below_i _ 2000 2000 _ hc1 (by decide) (by decide) (by decide)).mono ?_); rintro e w2 ⟨k2, rfl, hk20, hc2, hk2⟩; have hz2 := hc2.lt) | (go_at_call 37; (with_reducible refine (l01PickInt_any _ _ 8 _ [0, 3, -4, 1000000000, -1000000000, 1000000001, -1000000001, (k2 : Int) - 1000] _ (hc2.below (by repeat (first | exact Below.refl _ _ | assumption | refine bl_drewN ?_ _ | refine bl_drew ?_ | refine bl_alloc ?_ _ | refine bl_set ?_ (by first | (simp; done) | (simp; omega) | omega | (simp [World.setCell]; done) | (simp [World.setCell]; omega)) _ | refine bl_call ?_ (by assumption)))) (by with_unfolding_all rfl) rfl (by simp) (by simp) (Blk.new_at _ _ _ rfl) (by omega)).mono ?_); rintro e w3 ⟨v3, hv3, rfl, hc3, hk3⟩; have hz3 := hc3.lt; have HV3 := Lib.hid hv3; clear hv3) | (go_at_call 38; (with_reducible refine (l01Below_i _ 2000 2000 _ hc3 (by decide) (by decide) (by decide)).mono ?_); rintro e w4 ⟨k4, rfl, hk40, hc4, hk4⟩; have hz4 := hc4.lt) | (go_at_call 37; (with_reducible refine (l01PickInt_any _ _ 6 _ [0, 3, -4, 1000000000, -1000000001, (k4 : Int) - 1000] _ (hc4.below (by repeat (first | exact Below.refl _ _ | assumption | refine bl_drewN ?_ _ | refine bl_drew ?_ | refine bl_alloc ?_ _ | refine bl_set ?_ (by first | (simp; done) | (simp; omega) | omega | (simp [World.setCell]; done) | (simp [World.setCell]; omega)) _ | refine bl_call ?_ (by assumption)))) (by with_unfolding_all rfl) rfl (by simp) (by simp) (Blk.new_at _ _ _ rfl) (by omega)).mono ?_); rintro e w5 ⟨v5, hv5, rfl, hc5, hk5⟩; have hz5 := hc5.lt; have HV5 := Lib.hid hv5; clear hv5))
  refine bodyPost_ret (v := .tuple #[.int .i64 v3, .int .i64 v5]) (by simp [results, Tryd.results15, go_sem]) rfl ⟨v3, v5, ?_, ?_, rfl, ?_⟩
  · have h := HV3.out
    simp at h
    omega
  · have h := HV5.out
    simp at h
    omega
  · refine bl_kept (bl_alloc (bl_kept (bl_kept (bl_alloc (bl_kept hb1 hk2 (Nat.le_refl _)) _) hk3 (Nat.le_refl _)) hk4 (Nat.le_refl _)) _) hk5 (Nat.le_refl _)
end Go.Proofs.YtldcciipicnooaaDoor
