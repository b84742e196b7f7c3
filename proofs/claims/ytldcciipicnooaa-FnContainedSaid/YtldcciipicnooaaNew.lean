/- A new cursor. -/
import Derived.Test.YtldcciipicnooaaCur
import Derived.Deep.DeepCutAuto
namespace Go.Proofs.Ytldcciipicnooaa
open Go.RowKit
attribute [local go_sem] run_neg_float run_neg_complex

theorem RowOk.kept' {c : Nat} {w w' : World} {A : Option Addr} {len : Nat} (h : RowOk c w A len) (hb : Below c w w') : RowOk c w' A len := fun k hl => by
  obtain ⟨x, n, h1, h2, h4, h5⟩ := h k hl
  exact ⟨x, n, h1, h2, (hb.cell h2).trans h4, h5⟩
set_option maxRecDepth 100000 in
theorem l01New_any (A : Option Addr) (len cap : Nat) (w : World) (hlen : len ≤ maxLen) (hrow : RowOk w.heap.size w A len) :
    Calls Try.prog 52 #[.slice A len cap] w fun e w' => e = .returned (.pointer (some ⟨w.heap.size, 0, none⟩)) ∧ CurOk w.heap.size w' ∧ Below w.heap.size w w' := by
  have hl63 : (len : Int) ≤ 9223372036854775807 := by unfold maxLen at hlen; omega
  go_enter Try.func52, Try.ntmps52
  go_wp2
  go_loopw [3, 4] (fun h i wr => ∃ (k : Nat) (x : Int), k ≤ len ∧ i = .int .i64 (k : Int) ∧ h = .int .i64 x ∧ wr = w) (fun _ i _ => len - (intOf i).toNat)
  case atStart => exact ⟨0, _, by omega, rfl, rfl, rfl⟩
  case round =>
    obtain ⟨k, x, hk, rfl, rfl, rfl⟩ := hrel
    by_cases h1 : (k : Int) < (len : Int)
    · by_cases h2 : (k : Int) < 4000
      · obtain ⟨y, n, rfl, hx1, hx3, hx4, hx5⟩ := hrow k (by omega)
        go_wp2
        refine ⟨⟨k + 1, _, by omega, rfl, rfl, trivial⟩, ?_⟩
        show len - ((k + 1 : Nat) : Int).toNat < len - ((k : Nat) : Int).toNat
        omega
      · have hd : decide ((k : Int) < 4000) = false := decide_eq_false h2
        go_wp2
        go_ret
        exact ⟨rfl, ⟨A, len, cap, 0, _, Blk.new wr _ _, hlen, hrow.kept' (by repeat (first | exact Below.refl _ _ | assumption | refine bl_drewN ?_ _ | refine bl_drew ?_ | refine bl_alloc ?_ _ | refine bl_set ?_ (by first | (simp; done) | (simp; omega) | omega | (simp [World.setCell]; done) | (simp [World.setCell]; omega)) _ | refine bl_call ?_ (by assumption)))⟩, by repeat (first | exact Below.refl _ _ | assumption | refine bl_drewN ?_ _ | refine bl_drew ?_ | refine bl_alloc ?_ _ | refine bl_set ?_ (by first | (simp; done) | (simp; omega) | omega | (simp [World.setCell]; done) | (simp [World.setCell]; omega)) _ | refine bl_call ?_ (by assumption))⟩
    · go_wp2
      go_ret
      exact ⟨rfl, ⟨A, len, cap, 0, _, Blk.new wr _ _, hlen, hrow.kept' (by repeat (first | exact Below.refl _ _ | assumption | refine bl_drewN ?_ _ | refine bl_drew ?_ | refine bl_alloc ?_ _ | refine bl_set ?_ (by first | (simp; done) | (simp; omega) | omega | (simp [World.setCell]; done) | (simp [World.setCell]; omega)) _ | refine bl_call ?_ (by assumption)))⟩, by repeat (first | exact Below.refl _ _ | assumption | refine bl_drewN ?_ _ | refine bl_drew ?_ | refine bl_alloc ?_ _ | refine bl_set ?_ (by first | (simp; done) | (simp; omega) | omega | (simp [World.setCell]; done) | (simp [World.setCell]; omega)) _ | refine bl_call ?_ (by assumption))⟩

theorem l01Below_i (c : Nat) (m : Int) (n : Nat) (w : World) (H : CurOk c w) (hm : m = (n : Int)) (h0 : 0 < n) (hn : n ≤ 9223372036854775807) :
    Calls Try.prog 57 #[.pointer (some ⟨c, 0, none⟩), .int .i64 m] w fun e w' => ∃ k : Nat, e = .returned (.int .i64 (k : Int)) ∧ k < n ∧ CurEnd c w w' := by
  subst hm
  exact l01Below_any c n w H h0 hn
theorem l01Once_i (c : Nat) (m : Int) (n : Nat) (w : World) (H : CurOk c w) (hm : m = (n : Int)) (h0 : 0 < n) (hn : n ≤ 9223372036854775807) :
    Calls Try.prog 70 #[.pointer (some ⟨c, 0, none⟩), .int .i64 m] w fun e w' => ∃ k : Bool, e = .returned (.bool k) ∧ CurEnd c w w' := by
  subst hm
  exact l01Once_any c n w H h0 hn
set_option maxRecDepth 100000 in
theorem l01Mild_any (c : Nat) (w : World) (H : CurOk c w) :
    Calls Try.prog 76 #[.pointer (some ⟨c, 0, none⟩)] w fun e w' => ∃ x, e = .returned (.float .f32 x) ∧ CurEnd c w w' := by
  have hc := H.lt
  go_enter Try.func76, Try.ntmps76
  go_wp2_with (first | (go_at_call 57; (with_reducible refine (l01Below_i c _ 400 _ (by assumption) (by decide) (by decide) (by decide)).mono ?_); rintro e w1 ⟨k, rfl, hk0, hc1, hk1⟩; have hz1 := hc1.lt) | (go_at_call 73; (with_reducible refine (l01PickInt_any c _ 7 _ [1, 1, 2, 4, 3, 10, 16] _ (hc1.below (by repeat (first | exact Below.refl _ _ | assumption | refine bl_drewN ?_ _ | refine bl_drew ?_ | refine bl_alloc ?_ _ | refine bl_set ?_ (by first | (simp; done) | (simp; omega) | omega | (simp [World.setCell]; done) | (simp [World.setCell]; omega)) _ | refine bl_call ?_ (by assumption)))) (by with_unfolding_all rfl) (by decide) (by decide) (by decide) (Blk.new_at _ _ _ rfl) (by omega)).mono ?_); rintro e w2 ⟨m, hm, rfl, hc2, hk2⟩; have hz2 := hc2.lt) | (refine wpl_farith 11 rfl rfl rfl rfl rfl rfl ?_; intro r1 n1 hr1))
  go_ret
  exact ⟨_, rfl, hc2, by repeat (first | exact Kept.refl _ _ | assumption | refine kp_drewN ?_ _ | refine kp_alloc ?_ _ | refine kp_set ?_ _ _ | refine kp_bl ?_ (by assumption) | refine kp_call ?_ (by assumption) | refine kp_drew ?_)⟩
set_option maxRecDepth 100000 in
theorem l01Single_any (c : Nat) (w : World) (H : CurOk c w) :
    Calls Try.prog 51 #[.pointer (some ⟨c, 0, none⟩)] w fun e w' => ∃ x, e = .returned (.float .f32 x) ∧ CurEnd c w w' := by
  have hc := H.lt
  go_enter Try.func51, Try.ntmps51
  go_wp2_with (first | (go_at_call 57; (with_reducible refine (l01Below_i c _ 16 _ (by first | assumption | exact CurOk.below (by assumption) (by repeat (first | exact Below.refl _ _ | assumption | refine bl_drewN ?_ _ | refine bl_drew ?_ | refine bl_alloc ?_ _ | refine bl_set ?_ (by first | (simp; done) | (simp; omega) | omega | (simp [World.setCell]; done) | (simp [World.setCell]; omega)) _ | refine bl_call ?_ (by assumption)))) (by decide) (by decide) (by decide)).mono ?_); rintro e w1 ⟨k1, rfl, hk10, hc1, hk1⟩; have hz1 := hc1.lt) | (go_at_call 57; (with_reducible refine (l01Below_i c _ 16777215 _ (by first | assumption | exact CurOk.below (by assumption) (by repeat (first | exact Below.refl _ _ | assumption | refine bl_drewN ?_ _ | refine bl_drew ?_ | refine bl_alloc ?_ _ | refine bl_set ?_ (by first | (simp; done) | (simp; omega) | omega | (simp [World.setCell]; done) | (simp [World.setCell]; omega)) _ | refine bl_call ?_ (by assumption)))) (by decide) (by decide) (by decide)).mono ?_); rintro e w2 ⟨k2, rfl, hk20, hc2, hk2⟩; have hz2 := hc2.lt) | (go_at_call 57; (with_reducible refine (l01Below_i c _ 230 _ (by first | assumption | exact CurOk.below (by assumption) (by repeat (first | exact Below.refl _ _ | assumption | refine bl_drewN ?_ _ | refine bl_drew ?_ | refine bl_alloc ?_ _ | refine bl_set ?_ (by first | (simp; done) | (simp; omega) | omega | (simp [World.setCell]; done) | (simp [World.setCell]; omega)) _ | refine bl_call ?_ (by assumption)))) (by decide) (by decide) (by decide)).mono ?_); rintro e w3 ⟨k3, rfl, hk30, hc3, hk3⟩; have hz3 := hc3.lt) | (go_at_call 57; (with_reducible refine (l01Below_i c _ 40 _ (by first | assumption | exact CurOk.below (by assumption) (by repeat (first | exact Below.refl _ _ | assumption | refine bl_drewN ?_ _ | refine bl_drew ?_ | refine bl_alloc ?_ _ | refine bl_set ?_ (by first | (simp; done) | (simp; omega) | omega | (simp [World.setCell]; done) | (simp [World.setCell]; omega)) _ | refine bl_call ?_ (by assumption)))) (by decide) (by decide) (by decide)).mono ?_); rintro e w3 ⟨k3, rfl, hk30, hc3, hk3⟩; have hz3 := hc3.lt) | (refine wpl_farith 22 rfl rfl rfl rfl rfl rfl ?_; intro r1 n1 hr1) | (refine wpl_farith 26 rfl rfl rfl rfl rfl rfl ?_; intro r1 n1 hr1) | (refine wpl_farith 31 rfl rfl rfl rfl rfl rfl ?_; intro r1 n1 hr1) | (go_at_call 61; (with_reducible refine (makeS_any _ _ _ _).mono ?_); rintro e w4 ⟨rfl, n4, rfl⟩) | (go_at_call 76; (with_reducible refine (l01Mild_any c _ (by assumption)).mono ?_); rintro e w5 ⟨x5, rfl, hc5, hk5⟩))
  all_goals
    go_ret
    refine ⟨_, rfl, ?_, by repeat (first | exact Kept.refl _ _ | assumption | refine kp_drewN ?_ _ | refine kp_alloc ?_ _ | refine kp_set ?_ _ _ | refine kp_bl ?_ (by assumption) | refine kp_call ?_ (by assumption) | refine kp_drew ?_)⟩
    first | assumption | (refine CurOk.below ?_ (by repeat (first | exact Below.refl _ _ | assumption | refine bl_drewN ?_ _ | refine bl_drew ?_ | refine bl_alloc ?_ _ | refine bl_set ?_ (by first | (simp; done) | (simp; omega) | omega | (simp [World.setCell]; done) | (simp [World.setCell]; omega)) _ | refine bl_call ?_ (by assumption))); assumption)
end Go.Proofs.Ytldcciipicnooaa
