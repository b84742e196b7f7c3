/- Two numbers that are the same word, or both a NaN, are told the same. -/
import Derived.Test.YtldcciipicnooaaRows
import Derived.Test.YtldcciipicnooaaFla
namespace Go.Proofs.Ytldcciipicnooaa
open Go.RowKit

theorem cmp_cw {k : FloatKind} {x y x' y' : Nat} (h : cw k x = cw k x') (h' : cw k y = cw k y') : k.format.order x y = k.format.order x' y' := by
  rcases cw_cases k x with ⟨a, b⟩ | ⟨a, b⟩ <;> rcases cw_cases k x' with ⟨a', b'⟩ | ⟨a', b'⟩
  · rw [order_nan_left k b, order_nan_left k b']
  · rw [a, a'] at h; cases h
  · rw [a, a'] at h; cases h
  · rw [a, a'] at h; cases h
    rcases cw_cases k y with ⟨c, d⟩ | ⟨c, d⟩ <;> rcases cw_cases k y' with ⟨c', d'⟩ | ⟨c', d'⟩
    · rw [order_nan_right k d, order_nan_right k d']
    · rw [c, c'] at h'; cases h'
    · rw [c, c'] at h'; cases h'
    · rw [c, c'] at h'; cases h'; rfl
theorem order_self {k : FloatKind} {x : Nat} (h : ru k.format x ≤ k.format.infRung) : k.format.order x x = some .eq := by
  rw [order_key k h h]
  congr 1
  exact Int.compare_eq_eq.2 rfl

set_option maxHeartbeats 400000 in
theorem sameFloat_same (a b : Nat) (w : World) (h : cw .f64 a = cw .f64 b) :
    Calls Try.prog 38 #[.float .f64 a, .float .f64 b] w fun e w' => e = .returned (.bool true) ∧ ∃ n, w' = w.drewN n := by
  rcases cw_cases .f64 a with ⟨a1, a2⟩ | ⟨a1, a2⟩
  · rcases cw_cases .f64 b with ⟨b1, b2⟩ | ⟨b1, b2⟩
    · have e1 : (FloatKind.f64.format.order a a != some .eq) = true := by rw [order_nan_left .f64 a2]; rfl
      have e2 : (FloatKind.f64.format.order b b != some .eq) = true := by rw [order_nan_left .f64 b2]; rfl
      clear h a1 b1 a2 b2
      go_enter Try.func38, Try.ntmps38
      go_wp2
      go_ret
      exact ⟨rfl, 0, rfl⟩
    · rw [a1, b1] at h; cases h
  · rcases cw_cases .f64 b with ⟨b1, b2⟩ | ⟨b1, b2⟩
    · rw [a1, b1] at h; cases h
    · rw [a1, b1] at h; cases h
      have e1 : (FloatKind.f64.format.order a a != some .eq) = false := by rw [order_self a2]; rfl
      have e2 : (FloatKind.f64.format.order a a == some .eq) = true := by rw [order_self a2]; rfl
      by_cases h0 : (FloatKind.f64.format.order a 0 == some .eq) = true
      · clear a1 b1 a2 b2
        go_enter Try.func38, Try.ntmps38
        go_wp2_with (first | (refine wpl_farith 28 rfl rfl rfl rfl rfl rfl ?_; intro r1 n1 hr1) | (refine wpl_farith 31 rfl rfl rfl rfl rfl rfl ?_; intro r2 n2 hr2))
        go_ret
        have he := cmp_cw (hr1.out.1.trans hr2.out.1.symm) (Eq.refl (cw .f64 0))
        exact ⟨by rw [he, beq_self_eq_true]; rfl, _, rfl⟩
      · clear a1 b1 a2 b2
        have h1 : (FloatKind.f64.format.order a 0 == some .eq) = false := by simpa using h0
        clear h0
        go_enter Try.func38, Try.ntmps38
        go_wp2
        go_ret
        exact ⟨rfl, 0, rfl⟩

theorem run_store_float (P : Program) (w : World) (a : Addr) (m : Mode) (k : FloatKind) (b : Nat) : (store a (.float k b) m).run P w = stored P w a (.float k b) m := run_store P w a _ m rfl
theorem run_store_complex (P : Program) (w : World) (a : Addr) (m : Mode) (k : FloatKind) (x y : Nat) : (store a (.complex k x y) m).run P w = stored P w a (.complex k x y) m := run_store P w a _ m rfl
theorem bcell {W w1 : World} (hb : Below W.heap.size W w1) : (∀ b o, b < W.heap.size → w1.cell? ⟨b, o, none⟩ = W.cell? ⟨b, o, none⟩) ∧ (∀ b o, b < W.heap.size → w1.frozen? ⟨b, o, none⟩ = W.frozen? ⟨b, o, none⟩) :=
  ⟨fun b o h => hb.cell (p := ⟨b, o, none⟩) h, fun b o h => hb.frozen (p := ⟨b, o, none⟩) h⟩
attribute [local go_sem] run_store_float run_store_complex

theorem fcell {W w1 : World} (hb : Below W.heap.size W w1) (n : Nat) (hn : n ≤ W.heap.size) : (∀ b o, b < n → w1.cell? ⟨b, o, none⟩ = W.cell? ⟨b, o, none⟩) ∧ (∀ b o, b < n → w1.frozen? ⟨b, o, none⟩ = W.frozen? ⟨b, o, none⟩) ∧ n ≤ w1.heap.size :=
  ⟨fun b o h => hb.cell (p := ⟨b, o, none⟩) (Nat.lt_of_lt_of_le h hn), fun b o h => hb.frozen (p := ⟨b, o, none⟩) (Nat.lt_of_lt_of_le h hn), Nat.le_trans hn hb.size⟩
theorem bl_alloc {a w : World} (h : Below a.heap.size a w) (o : Obj) : Below a.heap.size a (w.alloc o) := h.alloc h.size o
theorem bl_drewN {a w : World} (h : Below a.heap.size a w) (n : Nat) : Below a.heap.size a (w.drewN n) := below_drewN h n
theorem bl_drew {a w : World} (h : Below a.heap.size a w) : Below a.heap.size a w.drew := h.drew
theorem bl_set {a w : World} (h : Below a.heap.size a w) {p : Addr} (hp : a.heap.size ≤ p.block) (u : Value) : Below a.heap.size a (w.setCell p u) := h.setCell hp u
theorem bl_call {a w w' : World} (h : Below a.heap.size a w) (h' : Below w.heap.size w w') : Below a.heap.size a w' := h.trans (h'.mono h.size)

set_option maxHeartbeats 1000000 in
theorem eqSpan_same (a b a' b' : Nat) (w : World) (h : cw .f32 a = cw .f32 a') (h' : cw .f32 b = cw .f32 b') :
    Calls Try.prog 16 #[.agg #[.float .f32 a, .float .f32 b], .agg #[.float .f32 a', .float .f32 b']] w fun e w' => e = .returned (.bool true) ∧ Below w.heap.size w w' := by
  have H := Lib.hid h
  have H' := Lib.hid h'
  clear h h'
  go_enter Try.func16, Try.ntmps16
  go_wp2_with (first | (refine wpl_widen 7 Try.underlying24 Try.underlying39 rfl rfl rfl rfl ?_; intro r1 n1 hr1) | (refine wpl_widen 10 Try.underlying24 Try.underlying39 rfl rfl rfl rfl ?_; intro r2 n2 hr2) | (refine wpl_widen 15 Try.underlying24 Try.underlying39 rfl rfl rfl rfl ?_; intro r3 n3 hr3) | (refine wpl_widen 18 Try.underlying24 Try.underlying39 rfl rfl rfl rfl ?_; intro r4 n4 hr4) | (go_at_call 38; refine (sameFloat_same _ _ _ (by rw [hr3.out.1, hr4.out.1, H'.out])).mono ?_; rintro e w4 ⟨rfl, m2, rfl⟩) | (go_at_call 38; refine (sameFloat_same _ _ _ (by rw [hr1.out.1, hr2.out.1, H.out])).mono ?_; rintro e w3 ⟨rfl, m1, rfl⟩))
  go_ret
  exact ⟨rfl, bl_drewN (bl_alloc (bl_alloc (Below.refl _ _) _) _) _⟩
end Go.Proofs.Ytldcciipicnooaa
