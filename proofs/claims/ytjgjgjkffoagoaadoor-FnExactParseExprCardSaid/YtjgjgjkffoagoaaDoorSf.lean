/- Two numbers that are the same word, or both a NaN, are told the same. -/
import Derived.Test.YtjgjgjkffoagoaaDoorRows
import Derived.Test.YtjgjgjkffoagoaaDoorFla
namespace Go.Proofs.YtjgjgjkffoagoaaDoor
open Go.RowKit

theorem cmp_cw {k : FloatKind} {x y x' y' : Nat} (h : cw k x = cw k x') (h' : cw k y = cw k y') : k.format.order x y = k.format.order x' y' := by
  rcases cw_cases k x with ⟨a, b⟩ | ⟨a, b⟩ <;> rcases cw_cases k x' with ⟨a', b'⟩ | ⟨a', b'⟩
  · rw [order_nan_left k b, order_nan_left k b']
  · rw [a, a'] at h; cases h
  · rw [a, a'] at h; cases h
  · rw [a, a'] at h; cases h
    rcases cw_cases k y with ⟨c, d⟩ | ⟨c, d⟩ <;> rcases cw_cases k y' with ⟨c', d'⟩ | ⟨c', d'⟩
    · rw [order_nan_right k d, order_nan_right k d']
    · rw [c, c'] at h'; cases h'
    · rw [c, c'] at h'; cases h'
    · rw [c, c'] at h'; cases h'; rfl
theorem order_self {k : FloatKind} {x : Nat} (h : ru k.format x ≤ k.format.infRung) : k.format.order x x = some .eq := by
  rw [order_key k h h]
  congr 1
  exact Int.compare_eq_eq.2 rfl

theorem run_store_float (P : Program) (w : World) (a : Addr) (m : Mode) (k : FloatKind) (b : Nat) : (store a (.float k b) m).run P w = stored P w a (.float k b) m := run_store P w a _ m rfl
theorem run_store_complex (P : Program) (w : World) (a : Addr) (m : Mode) (k : FloatKind) (x y : Nat) : (store a (.complex k x y) m).run P w = stored P w a (.complex k x y) m := run_store P w a _ m rfl
theorem bcell {W w1 : World} (hb : Below W.heap.size W w1) : (∀ b o, b < W.heap.size → w1.cell? ⟨b, o, none⟩ = W.cell? ⟨b, o, none⟩) ∧ (∀ b o, b < W.heap.size → w1.frozen? ⟨b, o, none⟩ = W.frozen? ⟨b, o, none⟩) :=
  ⟨fun b o h => hb.cell (p := ⟨b, o, none⟩) h, fun b o h => hb.frozen (p := ⟨b, o, none⟩) h⟩
attribute [local go_sem] run_store_float run_store_complex

theorem fcell {W w1 : World} (hb : Below W.heap.size W w1) (n : Nat) (hn : n ≤ W.heap.size) : (∀ b o, b < n → w1.cell? ⟨b, o, none⟩ = W.cell? ⟨b, o, none⟩) ∧ (∀ b o, b < n → w1.frozen? ⟨b, o, none⟩ = W.frozen? ⟨b, o, none⟩) ∧ n ≤ w1.heap.size :=
  ⟨fun b o h => hb.cell (p := ⟨b, o, none⟩) (Nat.lt_of_lt_of_le h hn), fun b o h => hb.frozen (p := ⟨b, o, none⟩) (Nat.lt_of_lt_of_le h hn), Nat.le_trans hn hb.size⟩
theorem bl_alloc {a w : World} (h : Below a.heap.size a w) (o : Obj) : Below a.heap.size a (w.alloc o) := h.alloc h.size o
theorem bl_drewN {a w : World} (h : Below a.heap.size a w) (n : Nat) : Below a.heap.size a (w.drewN n) := below_drewN h n
theorem bl_drew {a w : World} (h : Below a.heap.size a w) : Below a.heap.size a w.drew := h.drew
theorem bl_set {a w : World} (h : Below a.heap.size a w) {p : Addr} (hp : a.heap.size ≤ p.block) (u : Value) : Below a.heap.size a (w.setCell p u) := h.setCell hp u
theorem bl_call {a w w' : World} (h : Below a.heap.size a w) (h' : Below w.heap.size w w') : Below a.heap.size a w' := h.trans (h'.mono h.size)

end Go.Proofs.YtjgjgjkffoagoaaDoor
