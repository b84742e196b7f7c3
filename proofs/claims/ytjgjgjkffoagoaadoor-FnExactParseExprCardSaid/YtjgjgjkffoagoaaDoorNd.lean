/- The words for expressions: nodes, how many operands they take, which rows of nodes are expressions; what a drawn number is. No program in sight but the types' numbers. -/
import Derived.Test.YtjgjgjkffoagoaaDoorCurE
import Derived.Laws.AppendOwn
import Derived.OwnWalk
import Derived.Deep.Onto
import Derived.Deep.AppendLies
namespace Go.Proofs.YtjgjgjkffoagoaaDoor
open Go.RowKit
set_option maxRecDepth 100000
set_option linter.unusedVariables false
set_option linter.unusedSimpArgs false

/-- A node of an expression. -/
structure Nd where
  kind : Int
  slot : Int
  re : Nat
  im : Nat
abbrev ndCells (x : Nd) : List Value := [.int .i64 x.kind, .int .i64 x.slot, .complex .f64 x.re x.im]
abbrev ndV (x : Nd) : Value := .agg #[.int .i64 x.kind, .int .i64 x.slot, .complex .f64 x.re x.im]
/-- How many operands a node takes. -/
def arity (x : Nd) : Nat := if 8 ≤ x.kind then 2 else if 3 ≤ x.kind then 1 else 0
/-- How many values stand behind a row of nodes. -/
def hrun : Nat → List Nd → Option Nat
  | h, [] => some h
  | h, x :: l => if h < arity x then none else hrun (h + 1 - arity x) l
theorem hrun_append : ∀ (a b : List Nd) (h : Nat), hrun h (a ++ b) = (hrun h a).bind fun k => hrun k b
  | [], b, h => rfl
  | x :: a, b, h => by
    show (if h < arity x then none else hrun (h + 1 - arity x) (a ++ b)) = (if h < arity x then none else hrun (h + 1 - arity x) a).bind _
    split
    · rfl
    · exact hrun_append a b _
theorem arity_le (x : Nd) : arity x ≤ 2 := by unfold arity; split <;> (try split) <;> omega
/-- A row of nodes that is an expression. -/
def IsEx (l : List Nd) : Prop := ∀ h, hrun h l = some (h + 1)
theorem isEx_leaf {x : Nd} (h : arity x = 0) : IsEx [x] := fun n => by
  unfold hrun
  rw [h]
  rfl
theorem isEx_one {a : List Nd} {x : Nd} (ha : IsEx a) (h : arity x = 1) : IsEx (a ++ [x]) := fun n => by
  rw [hrun_append, ha n]
  show hrun (n + 1) [x] = _
  unfold hrun
  rw [h, if_neg (by omega)]
  rfl
theorem isEx_two {a b : List Nd} {x : Nd} (ha : IsEx a) (hb : IsEx b) (h : arity x = 2) : IsEx (a ++ b ++ [x]) := fun n => by
  rw [hrun_append, hrun_append, ha n]
  show (hrun (n + 1) b).bind _ = _
  rw [hb (n + 1)]
  show hrun (n + 1 + 1) [x] = _
  unfold hrun
  rw [h, if_neg (by omega)]
  rfl

/-- A drawn part of a number: a single that is finite and has no sign, as a double. -/
def GoodW (x : Nat) : Prop := x < 2 ^ 64 ∧ ∃ y, y < 2 ^ 32 ∧ ru FloatKind.f32.format y < FloatKind.f32.format.infRung ∧ sg FloatKind.f32.format y = false ∧ cw .f64 x = widen (cw .f32 y)
def GoodV (re im : Nat) : Prop := (GoodW re ∧ im = 0) ∨ (re = 0 ∧ GoodW im)
/-- A drawn node. -/
def GoodN (x : Nd) : Prop := (x.kind = 1 ∧ x.slot = 0 ∧ GoodV x.re x.im) ∨ (x.kind = 2 ∧ (0 ≤ x.slot ∧ x.slot ≤ 3) ∧ x.re = 0 ∧ x.im = 0) ∨ ((3 ≤ x.kind ∧ x.kind ≤ 12) ∧ x.slot = 0 ∧ x.re = 0 ∧ x.im = 0)

theorem mkOk_rung {m : Nat} {e : Int} (h : mkOk m e = true) : rungOf FloatKind.f32.format m e < FloatKind.f32.format.infRung := by
  unfold mkOk at h; simp at h; exact h.1
theorem word32 {r : Nat} (h : r < FloatKind.f32.format.infRung) : r < 2 ^ 32 ∧ ru FloatKind.f32.format r = r ∧ sg FloatKind.f32.format r = false := by
  rw [i32] at h
  refine ⟨by omega, ?_, ?_⟩
  · unfold ru; rw [s32]; exact Nat.mod_eq_of_lt (by omega)
  · unfold sg; rw [s32, Nat.div_eq_of_lt (by omega)]; rfl
/-- A single that is finite and has no sign. -/
def Good32 (y : Nat) : Prop := y < 2 ^ 32 ∧ ru FloatKind.f32.format y < FloatKind.f32.format.infRung ∧ sg FloatKind.f32.format y = false
theorem good_make (m e : Int) : Good32 (makeF [43] m e).1 := by
  unfold makeF
  split
  · rename_i hc
    simp only [Bool.and_eq_true] at hc
    have hr := mkOk_rung hc.2
    obtain ⟨w1, w2, w3⟩ := word32 hr
    exact ⟨w1, by rw [show (signedF [43] (rungOf FloatKind.f32.format m.toNat e)).1 = rungOf FloatKind.f32.format m.toNat e from rfl, w2]; exact hr, w3⟩
  · exact ⟨by decide, by decide, by decide⟩
theorem good_one : Good32 1065353216 := ⟨by decide, by decide, by decide⟩
theorem good_widen {y r : Nat} (h : Good32 y) (hr : cw .f64 r = widen (cw .f32 y)) (hl : r < 2 ^ 64) : GoodW r := ⟨hl, y, h.1, h.2.1, h.2.2, hr⟩

/-- A slice value of nodes that begins block g. -/
def NRow (w : World) (v : Value) (l : List Nd) (g : Nat) : Prop := ∃ cap : Nat, v = .slice (some ⟨g, 0, none⟩) l.length cap ∧ w.ownsRow g 43 3 v l.length (l.flatMap ndCells)
theorem A_infoN : (Tryd.prog.info? 43).map (fun i => (i.zero, i.size, i.bytes)) = some (some (.agg #[.int .i64 0, .int .i64 0, .complex .f64 0 0]), 3, 32) := by kernel_rfl
theorem A_infoC : (Tryd.prog.info? 41).map (fun i => (i.zero, i.size, i.bytes)) = some (some (.complex .f64 0 0), 1, 16) := by kernel_rfl
theorem flat_len (l : List Nd) : (l.flatMap ndCells).length = l.length * 3 := by
  induction l with
  | nil => rfl
  | cons x l ih => rw [List.flatMap_cons, List.length_append, ih]; simp; omega
section
variable {w w' : World} {v : Value} {l : List Nd} {g c : Nat}
theorem NRow.lt (h : NRow w v l g) : g < w.heap.size := by
  obtain ⟨cap, rfl, hown⟩ := h
  exact (hown.lt g rfl).2
theorem own_block {base n size : Nat} {e : TypeId} {cap : Nat} {xs : List Value} (h : w.ownsRow base e size (.slice (some ⟨g, 0, none⟩) n cap) n xs) (he : w'.heap[g]? = w.heap[g]?) : w'.ownsRow base e size (.slice (some ⟨g, 0, none⟩) n cap) n xs := by
  refine ⟨h.1, ?_⟩
  rcases h.2 with ⟨h1, _⟩ | ⟨g', cap', cur, h1, h2, h3, h4⟩
  · simp at h1
  · have hg : g = g' := by simpa using (Value.slice.inj h1).1
    subst hg
    exact .inr ⟨g, cap', cur, h1, h2, he.trans h3, h4⟩
theorem own_at {base n size : Nat} {e : TypeId} {cap : Nat} {xs : List Value} (h : w.ownsRow base e size (.slice (some ⟨g, 0, none⟩) n cap) n xs) : w.ownsRow g e size (.slice (some ⟨g, 0, none⟩) n cap) n xs := by
  refine ⟨h.1, ?_⟩
  rcases h.2 with ⟨h1, _⟩ | ⟨g', cap', cur, h1, h2, h3, h4⟩
  · simp at h1
  · have hg : g = g' := by simpa using (Value.slice.inj h1).1
    subst hg
    exact .inr ⟨g, cap', cur, h1, Nat.le_refl _, h3, h4⟩
theorem NRow.of_block (h : NRow w v l g) (he : w'.heap[g]? = w.heap[g]?) : NRow w' v l g := by
  obtain ⟨cap, rfl, hown⟩ := h
  exact ⟨cap, rfl, own_block hown he⟩
theorem NRow.kept (h : NRow w v l g) (hk : Kept c w w') (hg : g ≠ c) : NRow w' v l g := h.of_block (hk.block g h.lt hg)
theorem NRow.below (h : NRow w v l g) (hb : Below w.heap.size w w') : NRow w' v l g := h.of_block (hb.block g h.lt)
theorem NRow.alloc (h : NRow w v l g) (o : Obj) : NRow (w.alloc o) v l g := h.of_block (Below.heap_alloc w o g h.lt)
theorem NRow.grown {row : Option Nat} (h : NRow w v l g) (hg : w.grownBy w' row) (hne : some g ≠ row) : NRow w' v l g := h.of_block (hg.block g h.lt hne)
theorem NRow.app {base cap : Nat} {l2 : List Nd} {n : Nat} {xs : List Value} (hn : n = (l ++ l2).length) (hx : xs = l.flatMap ndCells ++ l2.flatMap ndCells) (hown : w.ownsRow base 43 3 (.slice (some ⟨g, 0, none⟩) n cap) n xs) : NRow w (.slice (some ⟨g, 0, none⟩) n cap) (l ++ l2) g := by
  subst hn
  subst hx
  refine ⟨cap, rfl, ?_⟩
  rw [List.flatMap_append]
  exact own_at hown
/-- A slice literal of nodes. -/
theorem NRow.lit (w : World) (l : List Nd) (hl : l.length ≤ 1000) : NRow (w.alloc (.cells (l.flatMap ndCells).toArray 43)) (.slice (some ⟨w.heap.size, 0, none⟩) l.length l.length) l w.heap.size := by
  refine ⟨l.length, rfl, ?_⟩
  have := World.ownsRow_lit (base := w.heap.size) (e := 43) (size := 3) w (l.flatMap ndCells).toArray l.length (Nat.le_refl _) (by unfold maxLen; omega) (by simp only [List.size_toArray]; exact flat_len l)
  simpa using this
end
theorem Kept.grown {c : Nat} {a b d : World} {row : Option Nat} (h : Kept c a b) (hg : b.grownBy d row) (hr : ∀ k, row = some k → a.heap.size ≤ k) : Kept c a d :=
  ⟨hg.os.trans h.os, hg.tape.trans h.tape, hg.output.trans h.output, Nat.le_trans h.size hg.size, fun k hk hc => (hg.block k (Nat.lt_of_lt_of_le hk h.size) (fun e => by have := hr k e.symm; omega)).trans (h.block k hk hc)⟩
theorem CurOk.low {c : Nat} {w w' : World} (h : CurOk c w) (hb : Below (c + 1) w w') : CurOk c w' := by
  obtain ⟨A, len, cap, i, x, h1, h2, h3⟩ := h
  exact ⟨A, len, cap, i, x, h1.below hb (by omega), h2, fun k hl => by
    obtain ⟨y, n, e1, e2, e4, e5⟩ := h3 k hl
    exact ⟨y, n, e1, e2, (hb.cell (p := y.add k) (by omega)).trans e4, e5⟩⟩
theorem CurOk.grown {c : Nat} {w w' : World} {row : Option Nat} (h : CurOk c w) (hg : w.grownBy w' row) (hr : ∀ k, row = some k → c < k) : CurOk c w' :=
  h.low ((Below.refl (c + 1) w).grown hg h.lt (fun k e => hr k e))
end Go.Proofs.YtjgjgjkffoagoaaDoor
