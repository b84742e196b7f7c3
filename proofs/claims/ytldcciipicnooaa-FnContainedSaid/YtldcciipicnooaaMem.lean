/- Words for memory: a block known whole (after the guide's page of words to copy); rows of spans. -/
import Derived.Test.YtldcciipicnooaaMeet
import Derived.Laws.MakeOwn
import Derived.Laws.OwnMore
import Derived.Laws.Rows
namespace Go.Proofs.Ytldcciipicnooaa
open Go.RowKit

def Blk (w : World) (g : Nat) (t : TypeId) (cs : Array Value) : Prop := w.heap[g]? = some (.cells cs t (0, 0))
section
variable {w w' : World} {g : Nat} {t : TypeId} {cs : Array Value}
theorem Blk.lt (h : Blk w g t cs) : g < w.heap.size := by
  rcases Nat.lt_or_ge g w.heap.size with hlt | hge
  · exact hlt
  · unfold Blk at h; rw [Array.getElem?_eq_none hge] at h; cases h
theorem Blk.cell (h : Blk w g t cs) (i : Nat) : w.cell? ⟨g, i, none⟩ = cs[i]? := cell_of_row w g i cs t (0, 0) h
theorem Blk.frozen (h : Blk w g t cs) (i : Nat) : w.frozen? ⟨g, i, none⟩ = false := by
  unfold Blk at h
  simp [World.frozen?, h]
theorem Blk.new (w : World) (t : TypeId) (cs : Array Value) : Blk (w.alloc (.cells cs t)) w.heap.size t cs := heap_alloc_new w _
theorem Blk.drewN (h : Blk w g t cs) (n : Nat) : Blk (w.drewN n) g t cs := h
theorem Blk.alloc (h : Blk w g t cs) (o : Obj) : Blk (w.alloc o) g t cs := (Below.heap_alloc w o g h.lt).trans h
theorem Blk.set_ (h : Blk w g t cs) (i : Nat) (u : Value) : Blk (w.setCell ⟨g, i, none⟩ u) g t (cs.setIfInBounds i u) := by
  unfold Blk at h ⊢
  simp [World.setCell, Array.getElem?_modify, h]
theorem Blk.far (h : Blk w g t cs) {p : Addr} (hp : g ≠ p.block) (u : Value) : Blk (w.setCell p u) g t cs := (Below.heap_setCell w p u g hp).trans h
theorem Blk.below {B : Nat} (h : Blk w g t cs) (hb : Below B w w') (hg : g < B) : Blk w' g t cs := (hb.block g hg).trans h
end

/-- A slice value of spans that reads as l, in memory below block B. -/
def SpanRow (w : World) (B : Nat) (v : Value) (l : List (Nat × Nat)) : Prop :=
  (∃ A c, v = .slice A 0 c ∧ l = []) ∨ ∃ b off c, v = .slice (some ⟨b, off, none⟩) l.length c ∧ l.length ≤ c ∧ b < B ∧ 0 < l.length ∧
    ∀ i p, l[i]? = some p → w.cell? ⟨b, off + i * 2, none⟩ = some (.float .f32 p.1) ∧ w.cell? ⟨b, off + i * 2 + 1, none⟩ = some (.float .f32 p.2)

theorem SpanRow.below {w w' : World} {B : Nat} {v : Value} {l : List (Nat × Nat)} (h : SpanRow w B v l) (hb : Below B w w') : SpanRow w' B v l := by
  rcases h with h | ⟨b, off, c, h1, h2, h3, h4, h5⟩
  · exact .inl h
  · refine .inr ⟨b, off, c, h1, h2, h3, h4, fun i p hi => ?_⟩
    obtain ⟨x, y⟩ := h5 i p hi
    exact ⟨(hb.cell (p := ⟨b, off + i * 2, none⟩) h3).trans x, (hb.cell (p := ⟨b, off + i * 2 + 1, none⟩) h3).trans y⟩
theorem SpanRow.more {w : World} {B B' : Nat} {v : Value} {l : List (Nat × Nat)} (h : SpanRow w B v l) (hb : B ≤ B') : SpanRow w B' v l := by
  rcases h with h | ⟨b, off, c, h1, h2, h3, h4, h5⟩
  · exact .inl h
  · exact .inr ⟨b, off, c, h1, h2, by omega, h4, h5⟩
theorem SpanRow.len {w : World} {B : Nat} {v : Value} {l : List (Nat × Nat)} (h : SpanRow w B v l) : ∃ A c, v = .slice A l.length c := by
  rcases h with ⟨A, c, h1, rfl⟩ | ⟨b, off, c, h1, h2, h3, h4, h5⟩
  · exact ⟨A, c, h1⟩
  · exact ⟨_, c, h1⟩

theorem run_make_rowN {P : Program} (t e : TypeId) (i : TypeInfo) (z : Value) (ht : P.underlying t = some (.slice e)) (hi : P.info? e = some i) (hz : i.zero = some z)
    (kl kc : IntKind) (n c : Nat) (hnc : n ≤ c) (hbytes : i.bytes * c ≤ 281474976710656) (h63 : c ≤ 9223372036854775807) (w : World) :
    (Instr.makeSlice t (.int kl (n : Int)) (.int kc (c : Int))).run P w = .ok (.slice (some ⟨w.heap.size, 0, none⟩) n c) (w.alloc (.cells (madeCells z.cells (c * i.size)) e)) := by
  have hb : (i.bytes : Int) * (c : Int) ≤ 281474976710656 := by
    have h : ((i.bytes * c : Nat) : Int) ≤ 281474976710656 := by omega
    rwa [Int.natCast_mul] at h
  have hr := run_make (P := P) w t e i z ht hi hz kl kc n c (by omega) (by omega) hb (by omega)
  simp only [Int.toNat_natCast] at hr
  exact hr
end Go.Proofs.Ytldcciipicnooaa
