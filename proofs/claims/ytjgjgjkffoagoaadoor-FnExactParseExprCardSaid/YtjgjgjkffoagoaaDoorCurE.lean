/- The cursor that the draws read: what it holds, and that a draw writes nothing else. -/
import Derived.Test.YtjgjgjkffoagoaaDoorMk
import Derived.Laws.MakeOwn
import Derived.Laws.OwnMore
import Derived.Laws.Rows
import Derived.Deep.QuietTactic
import Derived.BigQuiet
import Derived.IntWalk
import Derived.Deep.DeepCutAuto
namespace Go.Proofs.YtjgjgjkffoagoaaDoor
open Go.RowKit
attribute [local go_sem] run_neg_float run_neg_complex

def Blk (w : World) (g : Nat) (t : TypeId) (cs : Array Value) : Prop := w.heap[g]? = some (.cells cs t (0, 0))
section
variable {w w' : World} {g : Nat} {t : TypeId} {cs : Array Value}
theorem Blk.lt (h : Blk w g t cs) : g < w.heap.size := by
  rcases Nat.lt_or_ge g w.heap.size with hlt | hge
  · exact hlt
  · unfold Blk at h; rw [Array.getElem?_eq_none hge] at h; cases h
theorem Blk.cell (h : Blk w g t cs) (i : Nat) : w.cell? ⟨g, i, none⟩ = cs[i]? := cell_of_row w g i cs t (0, 0) h
theorem Blk.frozen (h : Blk w g t cs) (i : Nat) : w.frozen? ⟨g, i, none⟩ = false := by
  unfold Blk at h
  simp [World.frozen?, h]
theorem Blk.new (w : World) (t : TypeId) (cs : Array Value) : Blk (w.alloc (.cells cs t)) w.heap.size t cs := heap_alloc_new w _
theorem Blk.drewN (h : Blk w g t cs) (n : Nat) : Blk (w.drewN n) g t cs := h
theorem Blk.alloc (h : Blk w g t cs) (o : Obj) : Blk (w.alloc o) g t cs := (Below.heap_alloc w o g h.lt).trans h
theorem Blk.set_ (h : Blk w g t cs) (i : Nat) (u : Value) : Blk (w.setCell ⟨g, i, none⟩ u) g t (cs.setIfInBounds i u) := by
  unfold Blk at h ⊢
  simp [World.setCell, Array.getElem?_modify, h]
theorem Blk.far (h : Blk w g t cs) {p : Addr} (hp : g ≠ p.block) (u : Value) : Blk (w.setCell p u) g t cs := (Below.heap_setCell w p u g hp).trans h
theorem Blk.below {B : Nat} (h : Blk w g t cs) (hb : Below B w w') (hg : g < B) : Blk w' g t cs := (hb.block g hg).trans h
end

/-- Nothing that was there is written but block c. -/
structure Kept (c : Nat) (w w' : World) : Prop where
  os : w'.os = w.os
  tape : w'.tape = w.tape
  output : w'.output = w.output
  size : w.heap.size ≤ w'.heap.size
  block : ∀ k, k < w.heap.size → k ≠ c → w'.heap[k]? = w.heap[k]?
section
variable {c : Nat} {a b d : World}
theorem Kept.refl (c : Nat) (w : World) : Kept c w w := ⟨rfl, rfl, rfl, Nat.le_refl _, fun _ _ _ => rfl⟩
theorem Kept.trans (h : Kept c a b) (k : Kept c b d) : Kept c a d :=
  ⟨k.os.trans h.os, k.tape.trans h.tape, k.output.trans h.output, Nat.le_trans h.size k.size, fun i hi hc => (k.block i (Nat.lt_of_lt_of_le hi h.size) hc).trans (h.block i hi hc)⟩
theorem Kept.of (h : Below a.heap.size a b) : Kept c a b := ⟨h.os, h.tape, h.output, h.size, fun k hk _ => h.block k hk⟩
theorem Kept.below {B : Nat} (h : Kept c a b) (hB : B ≤ c) (hs : B ≤ a.heap.size) : Below B a b := ⟨h.os, h.tape, h.output, h.size, fun k hk => h.block k (by omega) (by omega)⟩
theorem Kept.set (w : World) (c i : Nat) (v : Value) : Kept c w (w.setCell ⟨c, i, none⟩ v) :=
  ⟨rfl, rfl, rfl, by simp [World.setCell], fun k _ hc => Below.heap_setCell w _ v k hc⟩
theorem kp_alloc (h : Kept c a b) (o : Obj) : Kept c a (b.alloc o) := h.trans (Kept.of (bl_alloc (Below.refl _ _) o))
theorem kp_drewN (h : Kept c a b) (n : Nat) : Kept c a (b.drewN n) := ⟨h.os, h.tape, h.output, h.size, h.block⟩
theorem kp_set (h : Kept c a b) (i : Nat) (v : Value) : Kept c a (b.setCell ⟨c, i, none⟩ v) := h.trans (Kept.set b c i v)
theorem kp_far (h : Kept c a b) {p : Addr} (hp : a.heap.size ≤ p.block) (v : Value) : Kept c a (b.setCell p v) :=
  ⟨h.os, h.tape, h.output, by simp [World.setCell]; exact h.size, fun k hk hc => (Below.heap_setCell b p v k (by omega)).trans (h.block k hk hc)⟩
theorem kp_call (h : Kept c a b) (h' : Kept c b d) : Kept c a d := h.trans h'
theorem kp_bl (h : Kept c a b) (h' : Below b.heap.size b d) : Kept c a d := h.trans (Kept.of h')
theorem Kept.cell (h : Kept c a b) {p : Addr} (hp : p.block < a.heap.size) (hc : p.block ≠ c) : b.cell? p = a.cell? p :=
   World.cell?_of_block (w := a) (h.block p.block hp hc)
theorem Blk.kept {g : Nat} {t : TypeId} {cs : Array Value} (h : Blk a g t cs) (hk : Kept c a b) (hg : g ≠ c) : Blk b g t cs := (hk.block g h.lt hg).trans h
end

theorem add_block (a : Addr) (n : Nat) : (a.add n).block = a.block := by unfold Addr.add; split <;> rfl
theorem Blk.new_at (w : World) (t : TypeId) (cs : Array Value) {g : Nat} (h : g = w.heap.size) : Blk (w.alloc (.cells cs t)) g t cs := by subst h; exact Blk.new w t cs
/-- The bytes of a slice, outside block c. -/
def RowOk (c : Nat) (w : World) (A : Option Addr) (len : Nat) : Prop :=
  ∀ k : Nat, k < len → ∃ (x : Addr) (n : Int), A = some x ∧ (x.add k).block < c ∧ w.cell? (x.add k) = some (.int .u8 n) ∧ 0 ≤ n ∧ n ≤ 255
theorem RowOk.kept {c : Nat} {w w' : World} {A : Option Addr} {len : Nat} (h : RowOk c w A len) (hc : c < w.heap.size) (hk : Kept c w w') : RowOk c w' A len := fun k hl => by
  obtain ⟨x, n, h1, h2, h4, h5⟩ := h k hl
  exact ⟨x, n, h1, h2, (hk.cell (by omega) (by omega)).trans h4, h5⟩
/-- A cursor over a row of bytes. -/
def CurOk (c : Nat) (w : World) : Prop := ∃ (A : Option Addr) (len cap i : Nat) (h : Int), Blk w c 67 #[.slice A len cap, .int .i64 (i : Int), .int .i64 h] ∧ len ≤ maxLen ∧ RowOk c w A len
theorem CurOk.lt {c : Nat} {w : World} (h : CurOk c w) : c < w.heap.size := by obtain ⟨_, _, _, _, _, h, _⟩ := h; exact h.lt
def CurEnd (c : Nat) (w w' : World) : Prop := CurOk c w' ∧ Kept c w w'
theorem CurOk.below {c : Nat} {w w' : World} (h : CurOk c w) (hb : Below w.heap.size w w') : CurOk c w' := by
  have hl := h.lt
  obtain ⟨A, len, cap, i, x, h1, h2, h3⟩ := h
  exact ⟨A, len, cap, i, x, h1.below hb hl, h2, h3.kept hl (Kept.of hb)⟩
theorem CurOk.far {c : Nat} {w : World} (h : CurOk c w) {p : Addr} (hp : c < p.block) (v : Value) : CurOk c (w.setCell p v) := by
  obtain ⟨A, len, cap, i, x, h1, h2, h3⟩ := h
  refine ⟨A, len, cap, i, x, h1.far (by omega) v, h2, fun k hl => ?_⟩
  obtain ⟨x, n, h1, h2, h4, h5⟩ := h3 k hl
  exact ⟨x, n, h1, h2, (World.cell?_of_block (Below.heap_setCell w p v _ (by omega))).trans h4, h5⟩

theorem and255 (y : Int) : 0 ≤ bits .and .i64 y 255 ∧ bits .and .i64 y 255 ≤ 255 := by
  have h : (BitVec.ofInt 64 y &&& BitVec.ofInt 64 255).toNat ≤ 255 := by
    rw [BitVec.toNat_and]
    exact Nat.le_trans Nat.and_le_right (by decide)
  have h2 : bits .and .i64 y 255 = IntKind.i64.wrap ((BitVec.ofInt 64 y &&& BitVec.ofInt 64 255).toNat : Int) := rfl
  rw [h2, IntWalk.i64_in _ (by omega)]
  omega

set_option maxRecDepth 100000 in
theorem l01Byte_any (c : Nat) (w : World) (H : CurOk c w) :
    Calls Tryd.prog 52 #[.pointer (some ⟨c, 0, none⟩)] w fun e w' => ∃ n : Int, e = .returned (.int .i64 n) ∧ 0 ≤ n ∧ n ≤ 255 ∧ CurEnd c w w' := by
  obtain ⟨A, len, cap, i, h, hb, hlen, hrow⟩ := H
  have c0 := hb.cell 0
  have c1 := hb.cell 1
  have c2 := hb.cell 2
  simp at c0 c1 c2
  have f1 := hb.frozen 1
  have f2 := hb.frozen 2
  have hlt := hb.lt
  by_cases hil : i < len
  · obtain ⟨x, n, rfl, hx1, hx3, hx4, hx5⟩ := hrow i hil
    have hx6 : ∀ v, (w.setCell ⟨c, 2, none⟩ v).cell? (x.add i) = some (.int .u8 n) := fun v => ((Kept.set w c 2 v).cell (p := x.add i) (by omega) (by omega)).trans hx3
    have hil' : (i : Int) < (len : Int) := by omega
    go_enter Tryd.func52, Tryd.ntmps52
    go_wp2
    go_quiet (fail)
    go_wp2
    go_quiet (fail)
    go_wp2
    go_quiet (fail)
    go_wp2
    go_ret
    have hk : ∀ v u a, Kept c w (((w.setCell ⟨c, 2, none⟩ v).drewN a).setCell ⟨c, 1, none⟩ u) := fun v u a => kp_set (kp_drewN (Kept.set w c 2 v) _) 1 u
    have hw : wrap64 ((i : Int) + 1) = ((i + 1 : Nat) : Int) := by unfold maxLen at hlen; unfold wrap64; omega
    refine ⟨_, rfl, (and255 _).1, (and255 _).2, ⟨_, len, cap, i + 1, wrap64 (wrap64 (h * 6364136223846793005) + 1442695040888963407), ?_, hlen, RowOk.kept hrow hlt (hk _ _ _)⟩, hk _ _ _⟩
    rw [← hw]
    exact (hb.set_ 2 _).set_ 1 _
  · have hil' : ¬ (i : Int) < (len : Int) := by omega
    go_enter Tryd.func52, Tryd.ntmps52
    go_wp2
    go_quiet (fail)
    go_wp2
    go_quiet (fail)
    go_wp2
    go_ret
    have hk : ∀ v a b, Kept c w (((w.setCell ⟨c, 2, none⟩ v).drewN a).drewN b) := fun v a b => kp_drewN (kp_drewN (Kept.set w c 2 v) _) _
    exact ⟨_, rfl, (and255 _).1, (and255 _).2, ⟨_, len, cap, i, _, hb.set_ 2 _, hlen, RowOk.kept hrow hlt (hk _ _ _)⟩, hk _ _ _⟩

theorem l01Byte_nat (c : Nat) (w : World) (H : CurOk c w) :
    Calls Tryd.prog 52 #[.pointer (some ⟨c, 0, none⟩)] w fun e w' => ∃ n : Nat, e = .returned (.int .i64 (n : Int)) ∧ n ≤ 255 ∧ CurEnd c w w' := by
  refine (l01Byte_any c w H).mono ?_
  rintro e w' ⟨n, rfl, h0, h1, h2⟩
  obtain ⟨m, rfl⟩ := Int.eq_ofNat_of_zero_le h0
  exact ⟨m, rfl, by omega, h2⟩
set_option maxRecDepth 100000 in
theorem l01Below_any (c n : Nat) (w : World) (H : CurOk c w) (h0 : 0 < n) (hn : n ≤ 9223372036854775807) :
    Calls Tryd.prog 32 #[.pointer (some ⟨c, 0, none⟩), .int .i64 (n : Int)] w fun e w' => ∃ k : Nat, e = .returned (.int .i64 (k : Int)) ∧ k < n ∧ CurEnd c w w' := by
  have h1 : ¬ (n : Int) ≤ 0 := by omega
  have hm : ∀ x : Int, ∃ k : Nat, x % (n : Int) = k ∧ k < n := fun x => by
    have a := Int.emod_nonneg x (b := (n : Int)) (by omega)
    have b := Int.emod_lt_of_pos x (b := (n : Int)) (by omega)
    exact ⟨(x % (n : Int)).toNat, by omega, by omega⟩
  by_cases h2 : (n : Int) ≤ 256
  all_goals
    go_enter Tryd.func32, Tryd.ntmps32
    go_wp2_with (go_at_call 52; (with_reducible refine (l01Byte_nat _ _ (by assumption)).mono ?_); rintro e w1 ⟨k, rfl, hk0, hc1, hk1⟩)
    go_ret
    obtain ⟨k, hk, hkn⟩ := hm _
    exact ⟨k, congrArg (fun x => Ending.returned (Value.int .i64 x)) hk, hkn, by assumption, by repeat (first | exact Kept.refl _ _ | assumption | refine kp_drewN ?_ _ | refine kp_alloc ?_ _ | refine kp_set ?_ _ _ | refine kp_bl ?_ (by assumption) | refine kp_call ?_ (by assumption) | refine kp_drew ?_)⟩
set_option maxRecDepth 100000 in
theorem l01Once_any (c n : Nat) (w : World) (H : CurOk c w) (h0 : 0 < n) (hn : n ≤ 9223372036854775807) :
    Calls Tryd.prog 31 #[.pointer (some ⟨c, 0, none⟩), .int .i64 (n : Int)] w fun e w' => ∃ k : Bool, e = .returned (.bool k) ∧ CurEnd c w w' := by
  go_enter Tryd.func31, Tryd.ntmps31
  go_wp2_with (go_at_call 32; (with_reducible refine (l01Below_any _ _ _ (by assumption) h0 hn).mono ?_); rintro e w1 ⟨k, rfl, hk0, hc1, hk1⟩)
  go_ret
  exact ⟨_, rfl, by assumption, by repeat (first | exact Kept.refl _ _ | assumption | refine kp_drewN ?_ _ | refine kp_alloc ?_ _ | refine kp_set ?_ _ _ | refine kp_bl ?_ (by assumption) | refine kp_call ?_ (by assumption) | refine kp_drew ?_)⟩
set_option maxRecDepth 100000 in
theorem l01PickInt_any (c b n : Nat) (cs : Array Value) (vs : List Int) (w : World) (H : CurOk c w) (hcs : cs = (vs.map (Value.int .i64)).toArray) (hnn : n = vs.length) (h0 : 0 < vs.length) (hn : vs.length ≤ 9223372036854775807) (hb : Blk w b 3 cs) (hbc : b ≠ c) :
    Calls Tryd.prog 34 #[.pointer (some ⟨c, 0, none⟩), .slice (some ⟨b, 0, none⟩) n n] w fun e w' => ∃ v ∈ vs, e = .returned ((Value.int .i64) v) ∧ CurEnd c w w' := by
  subst hcs
  subst hnn
  have hg : ∀ k (hk : k < vs.length), ((vs.map (Value.int .i64)).toArray)[k]? = some ((Value.int .i64) vs[k]) := fun k hk => by simp [hk]
  go_enter Tryd.func34, Tryd.ntmps34
  go_wp2_with (go_at_call 32; (with_reducible refine (l01Below_any _ _ _ (by assumption) h0 hn).mono ?_); rintro e w1 ⟨k, rfl, hk0, hc1, hk1⟩; have hk0' : (k : Int) < (vs.length : Int) := (by omega); have hx := ((hb.kept hk1 hbc).cell k).trans (hg k hk0))
  go_ret
  exact ⟨_, List.getElem_mem hk0, rfl, by assumption, by repeat (first | exact Kept.refl _ _ | assumption | refine kp_drewN ?_ _ | refine kp_alloc ?_ _ | refine kp_set ?_ _ _ | refine kp_bl ?_ (by assumption) | refine kp_call ?_ (by assumption) | refine kp_drew ?_)⟩

theorem RowOk.more {c : Nat} {w w' : World} {A : Option Addr} {len : Nat} (h : RowOk w.heap.size w A len) (hb : Below w.heap.size w w') (hc : w.heap.size ≤ c) : RowOk c w' A len := fun k hl => by
  obtain ⟨x, n, h1, h2, h4, h5⟩ := h k hl
  exact ⟨x, n, h1, by omega, (hb.cell h2).trans h4, h5⟩
theorem bl_kept {c : Nat} {a b d : World} (h : Below a.heap.size a b) (hk : Kept c b d) (hc : a.heap.size ≤ c) : Below a.heap.size a d := h.trans (hk.below hc h.size)

theorem RowOk.kept' {c : Nat} {w w' : World} {A : Option Addr} {len : Nat} (h : RowOk c w A len) (hb : Below c w w') : RowOk c w' A len := fun k hl => by
  obtain ⟨x, n, h1, h2, h4, h5⟩ := h k hl
  exact ⟨x, n, h1, h2, (hb.cell h2).trans h4, h5⟩
set_option maxRecDepth 100000 in
theorem l01New_any (A : Option Addr) (len cap : Nat) (w : World) (hlen : len ≤ maxLen) (hrow : RowOk w.heap.size w A len) :
    Calls Tryd.prog 15 #[.slice A len cap] w fun e w' => e = .returned (.pointer (some ⟨w.heap.size, 0, none⟩)) ∧ CurOk w.heap.size w' ∧ Below w.heap.size w w' := by
  have hl63 : (len : Int) ≤ 9223372036854775807 := by unfold maxLen at hlen; omega
  go_enter Tryd.func15, Tryd.ntmps15
  go_wp2
  go_loopw [3, 4] (fun h i wr => ∃ (k : Nat) (x : Int), k ≤ len ∧ i = .int .i64 (k : Int) ∧ h = .int .i64 x ∧ wr = w) (fun _ i _ => len - (intOf i).toNat)
  case atStart => exact ⟨0, _, by omega, rfl, rfl, rfl⟩
  case round =>
    obtain ⟨k, x, hk, rfl, rfl, rfl⟩ := hrel
    by_cases h1 : (k : Int) < (len : Int)
    · by_cases h2 : (k : Int) < 4000
      · obtain ⟨y, n, rfl, hx1, hx3, hx4, hx5⟩ := hrow k (by omega)
        go_wp2
        refine ⟨⟨k + 1, _, by omega, rfl, rfl, trivial⟩, ?_⟩
        show len - ((k + 1 : Nat) : Int).toNat < len - ((k : Nat) : Int).toNat
        omega
      · have hd : decide ((k : Int) < 4000) = false := decide_eq_false h2
        go_wp2
        go_ret
        exact ⟨rfl, ⟨A, len, cap, 0, _, Blk.new wr _ _, hlen, hrow.kept' (by repeat (first | exact Below.refl _ _ | assumption | refine bl_drewN ?_ _ | refine bl_drew ?_ | refine bl_alloc ?_ _ | refine bl_set ?_ (by first | (simp; done) | (simp; omega) | omega | (simp [World.setCell]; done) | (simp [World.setCell]; omega)) _ | refine bl_call ?_ (by assumption)))⟩, by repeat (first | exact Below.refl _ _ | assumption | refine bl_drewN ?_ _ | refine bl_drew ?_ | refine bl_alloc ?_ _ | refine bl_set ?_ (by first | (simp; done) | (simp; omega) | omega | (simp [World.setCell]; done) | (simp [World.setCell]; omega)) _ | refine bl_call ?_ (by assumption))⟩
    · go_wp2
      go_ret
      exact ⟨rfl, ⟨A, len, cap, 0, _, Blk.new wr _ _, hlen, hrow.kept' (by repeat (first | exact Below.refl _ _ | assumption | refine bl_drewN ?_ _ | refine bl_drew ?_ | refine bl_alloc ?_ _ | refine bl_set ?_ (by first | (simp; done) | (simp; omega) | omega | (simp [World.setCell]; done) | (simp [World.setCell]; omega)) _ | refine bl_call ?_ (by assumption)))⟩, by repeat (first | exact Below.refl _ _ | assumption | refine bl_drewN ?_ _ | refine bl_drew ?_ | refine bl_alloc ?_ _ | refine bl_set ?_ (by first | (simp; done) | (simp; omega) | omega | (simp [World.setCell]; done) | (simp [World.setCell]; omega)) _ | refine bl_call ?_ (by assumption))⟩

theorem l01Below_i (c : Nat) (m : Int) (n : Nat) (w : World) (H : CurOk c w) (hm : m = (n : Int)) (h0 : 0 < n) (hn : n ≤ 9223372036854775807) :
    Calls Tryd.prog 32 #[.pointer (some ⟨c, 0, none⟩), .int .i64 m] w fun e w' => ∃ k : Nat, e = .returned (.int .i64 (k : Int)) ∧ k < n ∧ CurEnd c w w' := by
  subst hm
  exact l01Below_any c n w H h0 hn
theorem l01Once_i (c : Nat) (m : Int) (n : Nat) (w : World) (H : CurOk c w) (hm : m = (n : Int)) (h0 : 0 < n) (hn : n ≤ 9223372036854775807) :
    Calls Tryd.prog 31 #[.pointer (some ⟨c, 0, none⟩), .int .i64 m] w fun e w' => ∃ k : Bool, e = .returned (.bool k) ∧ CurEnd c w w' := by
  subst hm
  exact l01Once_any c n w H h0 hn
set_option maxRecDepth 100000 in
theorem l01Mild_any (c : Nat) (w : World) (H : CurOk c w) :
    Calls Tryd.prog 54 #[.pointer (some ⟨c, 0, none⟩)] w fun e w' => ∃ x, e = .returned (.float .f32 x) ∧ CurEnd c w w' := by
  have hc := H.lt
  go_enter Tryd.func54, Tryd.ntmps54
  go_wp2_with (first | (go_at_call 32; (with_reducible refine (l01Below_i c _ 400 _ (by assumption) (by decide) (by decide) (by decide)).mono ?_); rintro e w1 ⟨k, rfl, hk0, hc1, hk1⟩; have hz1 := hc1.lt) | (go_at_call 34; (with_reducible refine (l01PickInt_any c _ 7 _ [1, 1, 2, 4, 3, 10, 16] _ (hc1.below (by repeat (first | exact Below.refl _ _ | assumption | refine bl_drewN ?_ _ | refine bl_drew ?_ | refine bl_alloc ?_ _ | refine bl_set ?_ (by first | (simp; done) | (simp; omega) | omega | (simp [World.setCell]; done) | (simp [World.setCell]; omega)) _ | refine bl_call ?_ (by assumption)))) (by with_unfolding_all rfl) (by decide) (by decide) (by decide) (Blk.new_at _ _ _ rfl) (by omega)).mono ?_); rintro e w2 ⟨m, hm, rfl, hc2, hk2⟩; have hz2 := hc2.lt) | (refine wpl_farith 11 rfl rfl rfl rfl rfl rfl ?_; intro r1 n1 hr1))
  go_ret
  exact ⟨_, rfl, hc2, by repeat (first | exact Kept.refl _ _ | assumption | refine kp_drewN ?_ _ | refine kp_alloc ?_ _ | refine kp_set ?_ _ _ | refine kp_bl ?_ (by assumption) | refine kp_call ?_ (by assumption) | refine kp_drew ?_)⟩
set_option maxRecDepth 100000 in
theorem l01Single_any (c : Nat) (w : World) (H : CurOk c w) :
    Calls Tryd.prog 73 #[.pointer (some ⟨c, 0, none⟩)] w fun e w' => ∃ x, e = .returned (.float .f32 x) ∧ CurEnd c w w' := by
  have hc := H.lt
  go_enter Tryd.func73, Tryd.ntmps73
  go_wp2_with (first | (go_at_call 32; (with_reducible refine (l01Below_i c _ 16 _ (by first | assumption | exact CurOk.below (by assumption) (by repeat (first | exact Below.refl _ _ | assumption | refine bl_drewN ?_ _ | refine bl_drew ?_ | refine bl_alloc ?_ _ | refine bl_set ?_ (by first | (simp; done) | (simp; omega) | omega | (simp [World.setCell]; done) | (simp [World.setCell]; omega)) _ | refine bl_call ?_ (by assumption)))) (by decide) (by decide) (by decide)).mono ?_); rintro e w1 ⟨k1, rfl, hk10, hc1, hk1⟩; have hz1 := hc1.lt) | (go_at_call 32; (with_reducible refine (l01Below_i c _ 16777215 _ (by first | assumption | exact CurOk.below (by assumption) (by repeat (first | exact Below.refl _ _ | assumption | refine bl_drewN ?_ _ | refine bl_drew ?_ | refine bl_alloc ?_ _ | refine bl_set ?_ (by first | (simp; done) | (simp; omega) | omega | (simp [World.setCell]; done) | (simp [World.setCell]; omega)) _ | refine bl_call ?_ (by assumption)))) (by decide) (by decide) (by decide)).mono ?_); rintro e w2 ⟨k2, rfl, hk20, hc2, hk2⟩; have hz2 := hc2.lt) | (go_at_call 32; (with_reducible refine (l01Below_i c _ 230 _ (by first | assumption | exact CurOk.below (by assumption) (by repeat (first | exact Below.refl _ _ | assumption | refine bl_drewN ?_ _ | refine bl_drew ?_ | refine bl_alloc ?_ _ | refine bl_set ?_ (by first | (simp; done) | (simp; omega) | omega | (simp [World.setCell]; done) | (simp [World.setCell]; omega)) _ | refine bl_call ?_ (by assumption)))) (by decide) (by decide) (by decide)).mono ?_); rintro e w3 ⟨k3, rfl, hk30, hc3, hk3⟩; have hz3 := hc3.lt) | (go_at_call 32; (with_reducible refine (l01Below_i c _ 40 _ (by first | assumption | exact CurOk.below (by assumption) (by repeat (first | exact Below.refl _ _ | assumption | refine bl_drewN ?_ _ | refine bl_drew ?_ | refine bl_alloc ?_ _ | refine bl_set ?_ (by first | (simp; done) | (simp; omega) | omega | (simp [World.setCell]; done) | (simp [World.setCell]; omega)) _ | refine bl_call ?_ (by assumption)))) (by decide) (by decide) (by decide)).mono ?_); rintro e w3 ⟨k3, rfl, hk30, hc3, hk3⟩; have hz3 := hc3.lt) | (refine wpl_farith 22 rfl rfl rfl rfl rfl rfl ?_; intro r1 n1 hr1) | (refine wpl_farith 26 rfl rfl rfl rfl rfl rfl ?_; intro r1 n1 hr1) | (refine wpl_farith 31 rfl rfl rfl rfl rfl rfl ?_; intro r1 n1 hr1) | (go_at_call 53; (with_reducible refine (makeS_any _ _ _ _).mono ?_); rintro e w4 ⟨rfl, n4, rfl⟩) | (go_at_call 54; (with_reducible refine (l01Mild_any c _ (by assumption)).mono ?_); rintro e w5 ⟨x5, rfl, hc5, hk5⟩))
  all_goals
    go_ret
    refine ⟨_, rfl, ?_, by repeat (first | exact Kept.refl _ _ | assumption | refine kp_drewN ?_ _ | refine kp_alloc ?_ _ | refine kp_set ?_ _ _ | refine kp_bl ?_ (by assumption) | refine kp_call ?_ (by assumption) | refine kp_drew ?_)⟩
    first | assumption | (refine CurOk.below ?_ (by repeat (first | exact Below.refl _ _ | assumption | refine bl_drewN ?_ _ | refine bl_drew ?_ | refine bl_alloc ?_ _ | refine bl_set ?_ (by first | (simp; done) | (simp; omega) | omega | (simp [World.setCell]; done) | (simp [World.setCell]; omega)) _ | refine bl_call ?_ (by assumption))); assumption)
theorem big_any (A : Option Addr) (len cap : Nat) (w : World) :
    Calls Tryd.prog 5 #[.slice A len cap] w fun en w' => en = .returned (.bool (decide ((1048576 : Int) < (len : Int)))) ∧ w' = w := by
  go_enter Tryd.func5, Tryd.ntmps5
  go_wp2
  go_ret
  exact ⟨rfl, rfl⟩
/-- A SLICE OF BYTES THAT CAME IN. -/
theorem row_of {w : World} {a : Option Addr} {len cap : Nat} {zs : List Int} (h : (a = none ∧ len = 0 ∧ cap = 0 ∧ zs = []) ∨
    ∃ x, a = some x ∧ len ≤ cap ∧ cap ≤ maxLen ∧ zs.length = cap ∧ (∀ i, i < zs.length → w.cell? (x.add i) = some (.int .u8 (zs.getD i 0))) ∧ ∀ n ∈ zs, (Lit.int .u8 n).wf = true) : len ≤ maxLen ∧ RowOk w.heap.size w a len := by
  rcases h with ⟨rfl, rfl, rfl, rfl⟩ | ⟨x, rfl, h1, h2, h3, h4, h5⟩
  · exact ⟨Nat.zero_le _, fun k hk => absurd hk (Nat.not_lt_zero k)⟩
  · refine ⟨by omega, fun k hk => ?_⟩
    have hc := h4 k (by omega)
    have hw : (Lit.int .u8 (zs.getD k 0)).wf = true := h5 _ (by rw [List.getD_eq_getElem?_getD, List.getElem?_eq_getElem (by omega)]; exact List.getElem_mem _)
    refine ⟨x, zs.getD k 0, rfl, World.block_lt_of_cell? w _ hc, hc, ?_⟩
    generalize zs.getD k 0 = n at hw
    simp [Lit.wf, IntKind.min, IntKind.max, IntKind.signed, IntKind.bits] at hw
    omega

end Go.Proofs.YtjgjgjkffoagoaaDoor
