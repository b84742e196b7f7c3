/- Writing an expression: the stack of texts, plainly. No program in sight. -/
import Derived.Test.YtjgjgjkffoagoaaDoorFmA
namespace Go.Proofs.YtjgjgjkffoagoaaDoor
open Go.RowKit
open Go.Lib (itoa decDigits nDigits nDigits_le20 itoa_length_le)
set_option maxRecDepth 100000
set_option maxHeartbeats 1000000
set_option linter.unusedVariables false
set_option linter.unusedSimpArgs false

abbrev wtCells (t : Ex) : List Value := [tx t.txt, .int .i64 (t.str : Int)]
theorem A_infoW : (Tryd.prog.info? 49).map (fun i => (i.zero, i.size, i.bytes)) = some (some (.agg #[.string ⟨#[]⟩, .int .i64 0]), 2, 24) := by kernel_rfl
/-- A tree that may stand on the stack. -/
def TOk (t : Ex) : Prop := t.Val ∧ t.txt.length ≤ 60 * t.flat.length
theorem wt_len (ts : List Ex) : (ts.flatMap wtCells).length = ts.length * 2 := by
  induction ts with
  | nil => rfl
  | cons t ts ih => rw [List.flatMap_cons, List.length_append, ih]; simp; omega
theorem wt_one (t : Ex) : ∀ u ∈ wtCells t, u.oneCell' = true := by
  intro u hu
  simp only [List.mem_cons, List.not_mem_nil, or_false] at hu
  rcases hu with rfl | rfl <;> rfl
theorem ins_len (n b : Nat) (t : List UInt8) : (ins n t b).length ≤ t.length + 2 := by
  unfold ins
  split
  · simp
  · omega
theorem flat_pos : ∀ t : Ex, 1 ≤ t.flat.length
  | .leaf x t => Nat.le_refl _
  | .one x a => by show 1 ≤ (a.flat ++ [x]).length; simp
  | .two x a b => by show 1 ≤ (a.flat ++ b.flat ++ [x]).length; simp; omega
theorem TOk.one {x : Nd} {a : Ex} (hk : 3 ≤ x.kind ∧ x.kind ≤ 7) (hx : x = nd x.kind) (ha : TOk a) : TOk (.one x a) := by
  refine ⟨⟨hk, hx, ha.1⟩, ?_⟩
  have h1 := ha.2
  have h2 := ins_len 4 a.str a.txt
  show (if x.kind = 3 then 43 :: ins 4 a.txt a.str else if x.kind = 4 then 45 :: ins 4 a.txt a.str else wordT x.kind ++ (a.txt ++ [41])).length ≤ 60 * (a.flat ++ [x]).length
  have h3 : (wordT x.kind).length ≤ 5 := by unfold wordT; split <;> (try split) <;> simp
  rw [List.length_append]
  split
  · simp; omega
  split
  · simp; omega
  · simp; omega
theorem TOk.two {x : Nd} {a b : Ex} (hk : 8 ≤ x.kind ∧ x.kind ≤ 12) (hx : x = nd x.kind) (ha : TOk a) (hb : TOk b) : TOk (.two x a b) := by
  refine ⟨⟨hk, hx, ha.1, hb.1⟩, ?_⟩
  have h1 := ha.2
  have h1' := hb.2
  have h2 := ins_len (stg x.kind) a.str a.txt
  have h2' := ins_len (stg x.kind + 1) b.str b.txt
  have h3 : (opT x.kind).length = 3 := by unfold opT; repeat (first | rfl | split)
  show (ins (stg x.kind) a.txt a.str ++ (opT x.kind ++ ins (stg x.kind + 1) b.txt b.str)).length ≤ 60 * (a.flat ++ b.flat ++ [x]).length
  simp only [List.length_append, List.length_singleton]
  omega
theorem TOk.leaf {x : Nd} {t : List UInt8} (h : LeafOk x t) (hl : t.length ≤ 60) : TOk (.leaf x t) := ⟨h, by show t.length ≤ 60 * 1; omega⟩
theorem itoa_dig {k : Nat} (hk : k ≤ 9) : itoa (k : Int) = [UInt8.ofNat (48 + k)] := by
  rw [itoa_nat _ (by omega)]
  have h : k = 0 ∨ k = 1 ∨ k = 2 ∨ k = 3 ∨ k = 4 ∨ k = 5 ∨ k = 6 ∨ k = 7 ∨ k = 8 ∨ k = 9 := by omega
  rcases h with rfl | rfl | rfl | rfl | rfl | rfl | rfl | rfl | rfl | rfl <;> (rw [Int.toNat_natCast]; unfold decDigits; rfl)
/-- The loop's relation. -/
def FmRel (l : List Nd) (w : World) (out i : Value) (wr : World) : Prop :=
  ∃ (k : Nat) (ts : List Ex), i = .int .i64 k ∧ k ≤ l.length ∧ wr.ownsRow w.heap.size 49 2 out ts.length (ts.flatMap wtCells) ∧ ts.flatMap Ex.flat = l.take k ∧ (∀ t ∈ ts, TOk t) ∧ hrun 0 (l.take k) = some ts.length ∧ Below w.heap.size w wr
/-- What FormatExpr ends with. -/
def FmEnd (l : List Nd) (w : World) (e : Ending) (w' : World) : Prop :=
  ∃ t : Ex, t.Val ∧ t.flat = l ∧ ((t.txt.length ≤ 600 ∧ e = .returned (.tuple #[tx t.txt, .bool true])) ∨ (600 < t.txt.length ∧ e = .returned (.tuple #[tx [], .bool false]))) ∧ Below w.heap.size w w'
/-- One tree on. -/
theorem fm_next {l : List Nd} {w W W' : World} {s0 ops : List Ex} {t : Ex} {k n g' cap : Nat} {out : Value} {xs : List Value} {o : Obj} (hex : IsEx l) (hk : k < l.length) (hfl : (s0 ++ ops).flatMap Ex.flat = l.take k) (hrn : hrun 0 (l.take k) = some (s0 ++ ops).length) (hops : ops.length = ar l[k].kind)
    (hok : ∀ t ∈ s0 ++ ops, TOk t) (ht : TOk t) (htf : t.flat = ops.flatMap Ex.flat ++ [l[k]]) (hb : Below w.heap.size w W) (hn : n = s0.length + 1) (hx : xs = s0.flatMap wtCells ++ wtCells t)
    (hown' : W'.ownsRow w.heap.size 49 2 (.slice (some ⟨g', 0, none⟩) n cap) n xs) (hgrow : (W.alloc o).grownBy W' out.ownBlock) (hrow : ∀ j, out.ownBlock = some j → w.heap.size ≤ j) :
    FmRel l w (.slice (some ⟨g', 0, none⟩) n cap) (.int .i64 ((k : Int) + 1)) W' ∧ l.length - (RowKit.intOf (.int .i64 ((k : Int) + 1))).toNat < l.length - (RowKit.intOf (.int .i64 (k : Int))).toNat := by
  subst hn hx
  obtain ⟨s1, s2, s3, s4, s5⟩ := hrun_step hex hk hrn
  refine ⟨⟨k + 1, s0 ++ [t], by simp, hk, ?_, ?_, ?_, ?_, (hb.alloc hb.size o).grown hgrow (Nat.le_trans hb.size (by rw [World.size_alloc]; omega)) hrow⟩, by simp [RowKit.intOf]; omega⟩
  · rw [List.flatMap_append, List.length_append]
    simpa using hown'
  · rw [List.take_succ_eq_append_getElem hk, ← hfl, List.flatMap_append, List.flatMap_append]
    simp [htf]
  · intro u hu
    rcases List.mem_append.1 hu with h | h
    · exact hok u (List.mem_append_left _ h)
    · simp at h; subst h; exact ht
  · rw [s2]
    congr 1
    rw [List.length_append, List.length_append, hops] 
    simp; omega
end Go.Proofs.YtjgjgjkffoagoaaDoor
