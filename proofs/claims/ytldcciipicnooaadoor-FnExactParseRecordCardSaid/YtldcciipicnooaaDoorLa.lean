/-
  What is proved here: strings.LastIndexAny(s, "+-"): it ends with a place in s or with -1; where s is the text of a pair of whole numbers, with the place of the second sign. Condition: the decoder's two tables are laid.
-/
import Derived.Test.YtldcciipicnooaaDoorIr
import Derived.Deep.WholeRow
namespace Go.Proofs.YtldcciipicnooaaDoor
open Go.RowKit Go.Lib Go.Shelf
set_option maxRecDepth 100000
set_option linter.unusedVariables false
set_option linter.unusedSimpArgs false

/-- The decoder's tables. -/
abbrev U8 (w : World) : Prop := Lib.Utf8Tabs 2 3 w
theorem u8_on {w w' : World} (h : U8 w) (hb : Below w.heap.size w w') : U8 w' :=
  ⟨fun c hc => (hb.cell (World.block_lt_of_cell? _ _ (h.1 c hc))).trans (h.1 c hc), fun i hi => ⟨(hb.cell (World.block_lt_of_cell? _ _ (h.2 i hi).1)).trans (h.2 i hi).1, (hb.cell (World.block_lt_of_cell? _ _ (h.2 i hi).2)).trans (h.2 i hi).2⟩⟩

/-- The second sign's place, where the text is a pair's: all signs from i on are behind us. -/
def Past (l : List UInt8) (i : Int) : Prop := (∀ c ∈ l, c.toNat < 128) → ∀ j (hj : j < l.length), i ≤ j → ¬IsSg l[j]
theorem pair_ascii (x y : Int) (l : List UInt8) (e : sgn x ++ sgn y ++ [105] = l) : ∀ c ∈ l, c.toNat < 128 := by
  obtain ⟨s, D, e1, hs, hD, hl⟩ := sgn_parts x
  obtain ⟨s', D', e2, hs', hD', hl'⟩ := sgn_parts y
  subst e
  rw [e1, e2]
  intro c hc
  simp only [List.append_assoc, List.cons_append, List.mem_cons, List.mem_append, List.nil_append, List.not_mem_nil, or_false] at hc
  rcases hc with h | h | h | h | h
  · subst h; rcases hs with h | h <;> omega
  · have := hD c h; omega
  · subst h; rcases hs' with h | h <;> omega
  · have := hD' c h; omega
  · subst h; decide
theorem la_hit (l : List UInt8) (k : Nat) (hk : k < l.length) (hp : Past l ((k : Int) + 1)) (hat : (∀ c ∈ l, c.toNat < 128) → IsSg l[k]) : LaR l k :=
  ⟨by omega, fun x y _ _ e => by
    have ha := pair_ascii x y l e
    rw [place_last x y l e k hk (hat ha) (fun i hi hki => hp ha i hi (by omega))]⟩
theorem la_miss (l : List UInt8) (hp : Past l 0) : LaR l (-1) :=
  ⟨by omega, fun x y _ _ e => (place_none x y l e (fun i hi => hp (pair_ascii x y l e) i hi (by omega))).elim⟩
theorem past_len (l : List UInt8) : Past l l.length := fun _ j hj h => by omega
theorem past_step (l : List UInt8) (k : Nat) (hk : k < l.length) (hp : Past l ((k : Int) + 1)) (hn : (∀ c ∈ l, c.toNat < 128) → ¬IsSg l[k]) : Past l k := by
  intro ha j hj h
  by_cases e : j = k
  · subst e; exact hn ha
  · exact hp ha j hj (by omega)
theorem is_pm (x : UInt8) : ([43, 45] : List UInt8).contains x = true ↔ IsSg x := by
  unfold IsSg
  simp only [List.contains_cons, List.contains_nil, Bool.or_false, Bool.or_eq_true, beq_iff_eq]
  constructor
  · rintro (h | h) <;> subst h
    · exact Or.inl rfl
    · exact Or.inr rfl
  · rintro (h | h)
    · left; exact UInt8.toNat_inj.1 h
    · right; exact UInt8.toNat_inj.1 h

/-- What a call of LastIndexAny ends with. -/
def LaEnd (l : List UInt8) (w : World) (e : Ending) (w' : World) : Prop := ∃ k : Int, e = .returned (.int .i64 k) ∧ LaR l k ∧ Below w.heap.size w w'

theorem zero256 : ∀ w, (zeroValue 82).run Tryd.prog w = .ok (.agg (Array.replicate 256 (.bool false))) w := (zero_of_info (n := 256) (by kernel_rfl)).1

theorem pm_ascii : ∀ (j : Nat) b, pmB.data.toList[j]? = some b → b.toNat < 128 := by
  intro j b hb
  have hm : b ∈ ([43, 45] : List UInt8) := List.mem_of_getElem? hb
  simp at hm
  rcases hm with h | h <;> subst h <;> decide

/-- The loop's world: the set, and the copy in the caller's variable. -/
abbrev setW (w : World) : World := (w.alloc (.cells (setCells [43, 45]) 82)).alloc (.cells (setCells [43, 45]) 82)
def LrRel (l : List UInt8) (w : World) (v : Value) (wr : World) : Prop := ∃ i : Int, v = .int .i64 i ∧ -1 ≤ i ∧ i < l.length ∧ Past l (i + 1) ∧ wr = setW w
theorem alloc2_at (w : World) (o o' : Obj) : ((w.alloc o).alloc o').heap[w.heap.size + 1]? = some o' := by
  have h := heap_alloc_last (w.alloc o) o'
  have e : (w.alloc o).heap.size = w.heap.size + 1 := World.size_alloc w o
  rwa [e] at h
theorem set_cell (w : World) (x : UInt8) : (setW w).cell? ⟨w.heap.size + 1, x.toNat, none⟩ = some (.bool (([43, 45] : List UInt8).contains x)) := by
  have h := setCells_at [43, 45] x
  have e : (setW w).heap[w.heap.size + 1]? = some (.cells (setCells [43, 45]) 82) := alloc2_at w _ _
  rw [cell_of_row _ _ _ _ _ _ e]
  exact h
theorem lr_round (l : List UInt8) (w : World) (k : Nat) (hk : k < l.length) (hp : Past l ((k : Int) + 1)) (hn : ¬IsSg l[k]) :
    LrRel l w (.int .i64 ((k : Int) - 1)) (setW w) ∧ (RowKit.intOf (.int .i64 ((k : Int) - 1)) + 1).toNat < (RowKit.intOf (.int .i64 (k : Int)) + 1).toNat := by
  refine ⟨⟨(k : Int) - 1, rfl, by omega, by omega, ?_, rfl⟩, by simp only [RowKit.intOf]; omega⟩
  have := past_step l k hk hp (fun _ => hn)
  rwa [show ((k : Int) - 1 + 1) = k by omega]

theorem lastAny_long (l : List UInt8) (h8 : 8 < l.length) (hl : l.length ≤ 4294967280) (w : World) :
    Calls Tryd.prog 39 #[tx l, .string pmB] w (LaEnd l w) := by
  have c8 : decide ((8 : Int) < (l.length : Int)) = true := decide_eq_true (by omega)
  have c1 : ((l.length : Int) == 1) = false := beq_eq_false_iff_ne.2 (by omega)
  have hz := setCells_size [43, 45]
  have hst : Sem.run Tryd.prog (storeCells ⟨w.heap.size + 1, 0, none⟩ (setCells [43, 45]).toList) ((w.alloc (.cells (setCells [43, 45]) 82)).alloc (.cells Tryd.zeroCells82 82)) = .ok () (setW w) := by
    have := run_storeCells_new (P := Tryd.prog) (w.alloc (.cells (setCells [43, 45]) 82)) 82 Tryd.zeroCells82 (setCells [43, 45]) (by rw [setCells_size]; kernel_rfl) (by rw [setCells_size]; kernel_rfl) (setCells_one _)
    simpa using this
  go_enter Tryd.func39, Tryd.ntmps39
  go_wp2_with (first | (go_at_call 58; (with_reducible refine (Tryd.strings_shouldUseASCIISet _ _).mono ?_); rintro e w9 ⟨rfl, hw9⟩; have hw9x := hw9.symm; clear hw9; subst hw9x) | (go_at_call 59; (with_reducible refine (Tryd.strings_makeASCIISet zero256 pmB _ (by decide) pm_ascii).mono ?_); rintro e w9 ⟨rfl, hw9⟩; subst hw9))
  clear hst
  go_loopw [8] (fun v wr => LrRel l w v wr) (fun v _ => (RowKit.intOf v + 1).toNat)
  case atStart => exact ⟨(l.length : Int) - 1, by go_num, by omega, by omega, (by rw [show ((l.length : Int) - 1 + 1) = l.length by omega]; exact past_len l), rfl⟩
  case round =>
    obtain ⟨i, rfl, hi0, hi1, hpast, rfl⟩ := hrel
    have HP := Lib.hid hpast
    clear hpast
    have HB : Hid (Below w.heap.size w (setW w)) := Lib.hid (Below.alloc (Below.alloc (Below.refl _ _) (Nat.le_refl _) _) (by simp) _)
    by_cases hneg : i = -1
    · subst hneg
      have HE := Lib.hid (la_miss l HP.out)
      go_wp2
      go_ret
      exact ⟨-1, rfl, HE.out, HB.out⟩
    · obtain ⟨k, rfl⟩ : ∃ k : Nat, i = k := ⟨i.toNat, by omega⟩
      have hlt : k < l.length := by omega
      have hsz : k < (⟨l.toArray⟩ : ByteArray).size := by simpa [ByteArray.size] using hlt
      obtain ⟨x, hx⟩ : ∃ x : UInt8, (⟨l.toArray⟩ : ByteArray)[k]'hsz = x := ⟨_, rfl⟩
      have HX : Hid (l[k] = x) := Lib.hid (by rw [← hx]; rfl)
      have hcell := set_cell w x
      by_cases hs : IsSg x
      · have hc := (is_pm x).2 hs
        rw [hc] at hcell
        have HE := Lib.hid (la_hit l k hlt HP.out (fun _ => by rw [HX.out]; exact hs))
        clear hc
        go_wp2_with (first | (go_at_call 60; (with_reducible refine (Tryd.asciiSet_contains _ x true _ hcell).mono ?_); rintro e w9 ⟨rfl, hw9⟩; have hw9x := hw9.symm; clear hw9; subst hw9x))
        go_ret
        exact ⟨k, rfl, HE.out, HB.out⟩
      · have hc : ([43, 45] : List UInt8).contains x = false := by
          by_cases h : ([43, 45] : List UInt8).contains x = true
          · exact absurd ((is_pm x).1 h) hs
          · simpa using h
        rw [hc] at hcell
        have HR := Lib.hid (lr_round l w k hlt HP.out (by rw [HX.out]; exact hs))
        clear hc
        go_wp2_with (first | (go_at_call 60; (with_reducible refine (Tryd.asciiSet_contains _ x false _ hcell).mono ?_); rintro e w9 ⟨rfl, hw9⟩; have hw9x := hw9.symm; clear hw9; subst hw9x))
        case roundEnd => exact HR.out
end Go.Proofs.YtldcciipicnooaaDoor
