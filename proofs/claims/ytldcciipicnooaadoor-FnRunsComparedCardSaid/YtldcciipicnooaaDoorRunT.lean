/-
  What is proved here: what impl.RunText returns: the texts of the numbers' pairs, if each number has one and they are at most 60. Condition: the table of powers of ten is laid.
-/
import Derived.Test.YtldcciipicnooaaDoorPq
import Derived.Test.YtldcciipicnooaaDoorPairD
import Derived.Laws.AppendOwn
import Derived.OwnWalk
import Derived.Deep.Onto
namespace Go.Proofs.YtldcciipicnooaaDoor
open Go.RowKit
open Go.Lib (itoa decDigits nDigits nDigits_le20 itoa_length_le)
set_option maxRecDepth 100000
set_option maxHeartbeats 2000000
set_option linter.unusedVariables false
set_option linter.unusedSimpArgs false

/-- A number of 64 bits. -/
abbrev cx (z : Nat × Nat) : Value := .complex .f32 z.1 z.2
/-- The numbers that a block begins with. -/
def CIn (w : World) (g : Nat) (l : List (Nat × Nat)) : Prop := g < w.heap.size ∧ ∀ j (h : j < l.length), w.cell? ⟨g, j, none⟩ = some (cx l[j])
theorem CIn.below {w w' : World} {g : Nat} {l : List (Nat × Nat)} (h : CIn w g l) (hb : Below w.heap.size w w') : CIn w' g l :=
  ⟨Nat.lt_of_lt_of_le h.1 hb.size, fun j hj => (hb.cell (p := ⟨g, j, none⟩) h.1).trans (h.2 j hj)⟩

theorem rnd_le {v : Rat} (h0 : 0 ≤ v) (h : v ≤ 1000000000) : rnd v ≤ 1000000000 := by
  obtain ⟨f1, f2⟩ := flN_spec h0
  unfold rnd
  split
  · rename_i hh
    have h2 : (flN v : Rat) + 1 / 2 ≤ 1000000000 := by grind
    have h3 : (flN v : Rat) < (1000000000 : Nat) := by
      have : ((1000000000 : Nat) : Rat) = 1000000000 := by norm_cast
      grind
    have := Rat.natCast_lt_natCast.1 h3
    omega
  · have h3 : (flN v : Rat) ≤ (1000000000 : Nat) := by
      have : ((1000000000 : Nat) : Rat) = 1000000000 := by norm_cast
      grind
    exact Rat.natCast_le_natCast.1 h3
theorem quant_inq {x : Nat} {u : Nat × Bool} {n : Int} (h : quantF x u = (n, true)) : InQ n := by
  unfold quantF at h
  split at h
  · split at h
    · cases h
    · rename_i q _
      split at h
      · rename_i hs
        have hq := of_decide_eq_true hs
        have hr := rnd_le (v := amt q) (rval_nonneg _ _) hq.2
        have e := (Prod.mk.inj h).1
        subst e
        unfold sgI InQ
        split <;> omega
      · cases h
  · cases h
theorem pair_inq {z : Nat × Nat} {v : Nat × Bool} {p q : Int} (h : pairF z v = (p, q, true)) : InQ p ∧ InQ q := by
  unfold pairF at h
  split at h
  · rename_i hc
    simp only [Bool.and_eq_true] at hc
    obtain ⟨e1, e2⟩ := Prod.mk.inj h
    obtain ⟨e2, _⟩ := Prod.mk.inj e2
    refine ⟨quant_inq (x := z.1) (u := v) (n := p) ?_, quant_inq (x := z.2) (u := v) (n := q) ?_⟩
    · rw [← e1]; exact Prod.ext rfl hc.1
    · rw [← e2]; exact Prod.ext rfl hc.2
  · cases h

/-- The text of a number's pair. -/
def ptx (U : Nat × Bool) (z : Nat × Nat) : List UInt8 := pairTx (pairF z U).1 (pairF z U).2.1
abbrev txs (fs : List (List UInt8)) : List Value := fs.map tx
theorem A_info9 : (Tryd.prog.info? 9).map (fun i => (i.zero, i.size, i.bytes)) = some (some (.string ByteArray.empty), 1, 16) := by kernel_rfl

/-- The unit's block. -/
abbrev boxU (w : World) (s : ByteArray) (m x : Int) : World := w.alloc (.cells #[.string s, .int .i64 m, .int .i64 x] 38)
theorem box_keep {w W : World} {s : ByteArray} {m x : Int} (h : Below (boxU w s m x).heap.size (boxU w s m x) W) :
    W.cell? ⟨w.heap.size, 0, none⟩ = some (.string s) ∧ W.cell? ⟨w.heap.size, 1, none⟩ = some (.int .i64 m) ∧ W.cell? ⟨w.heap.size, 2, none⟩ = some (.int .i64 x) ∧ w.heap.size < W.heap.size := by
  refine ⟨?_, ?_, ?_, by have := h.size; simp [boxU] at this; omega⟩ <;> (rw [h.cell (by simp [boxU])]; simp [boxU])
theorem from_box {w W : World} {s : ByteArray} {m x : Int} (h : Below (boxU w s m x).heap.size (boxU w s m x) W) : Below w.heap.size w W := (Below.alloc (Below.refl _ _) (Nat.le_refl _) _).trans (h.mono (by simp [boxU]))

theorem own_below {base : Nat} {e : TypeId} {size : Nat} {v : Value} {n : Nat} {xs : List Value} {w w' : World} (h : w.ownsRow base e size v n xs) (hb : Below w.heap.size w w') : w'.ownsRow base e size v n xs := by
  refine ⟨h.1, ?_⟩
  rcases h.2 with h2 | ⟨g, cap, cur, h1, h2, h3, h4⟩
  · exact .inl h2
  · exact .inr ⟨g, cap, cur, h1, h2, (hb.block g (Array.getElem?_eq_some_iff.1 h3).1).trans h3, h4⟩

/-- What a call of RunText ends with. -/
def RtEnd (l : List (Nat × Nat)) (U : Nat × Bool) (w : World) (e : Ending) (w' : World) : Prop :=
  ∃ (v : Value) (ok : Bool), e = .returned (.tuple #[v, .bool ok]) ∧ Below w.heap.size w w' ∧
    (∃ n, w'.ownsRow w.heap.size 9 1 v n (if ok then txs (l.map (ptx U)) else []) ∧ (ok = true → n = l.length)) ∧ (ok = true → l.length ≤ 60 ∧ ∀ z ∈ l, (pairF z U).2.2 = true)
/-- The loop's relation. -/
def RtRel (l : List (Nat × Nat)) (U : Nat × Bool) (w : World) (s : ByteArray) (m x : Int) (out i : Value) (wr : World) : Prop :=
  ∃ k : Nat, i = .int .i64 k ∧ k ≤ l.length ∧ (∀ j (h : j < l.length), j < k → (pairF l[j] U).2.2 = true) ∧ wr.ownsRow (w.heap.size + 1) 9 1 out k (txs ((l.take k).map (ptx U))) ∧
    Below (boxU w s m x).heap.size (boxU w s m x) wr

theorem rt_no {l : List (Nat × Nat)} {U : Nat × Bool} {w W : World} (h : Below w.heap.size w W) : RtEnd l U w (.returned (.tuple #[.slice none 0 0, .bool false])) W :=
  ⟨_, false, rfl, h, ⟨0, World.ownsRow_nil _ _ _ _, fun h => by cases h⟩, fun h => by cases h⟩
theorem rt_yes {l : List (Nat × Nat)} {U : Nat × Bool} {w W : World} {s : ByteArray} {m x : Int} {out : Value} (hl : l.length ≤ 60) (h : Below (boxU w s m x).heap.size (boxU w s m x) W) (hall : ∀ j (h : j < l.length), j < l.length → (pairF l[j] U).2.2 = true)
    (hown : W.ownsRow (w.heap.size + 1) 9 1 out l.length (txs ((l.take l.length).map (ptx U)))) : RtEnd l U w (.returned (.tuple #[out, .bool true])) W := by
  rw [List.take_length] at hown
  exact ⟨out, true, rfl, from_box h, ⟨l.length, World.ownsRow.mono hown (by omega), fun _ => rfl⟩, fun _ => ⟨hl, fun z hz => by
    obtain ⟨j, hj, rfl⟩ := List.getElem_of_mem hz
    exact hall j hj hj⟩⟩
theorem rt_next {l : List (Nat × Nat)} {U : Nat × Bool} {w w1 w2 : World} {s : ByteArray} {m x p q : Int} {out v' : Value} {o : Obj} {k : Nat} (hk : k < l.length) (hpq : pairF l[k] U = (p, q, true))
    (hall : ∀ j (h : j < l.length), j < k → (pairF l[j] U).2.2 = true) (hown : w1.ownsRow (w.heap.size + 1) 9 1 out k (txs ((l.take k).map (ptx U)))) (hb : Below (boxU w s m x).heap.size (boxU w s m x) w1)
    (hown' : w2.ownsRow (w.heap.size + 1) 9 1 v' (k + 1) (List.take k (List.map (tx ∘ ptx U) l) ++ [tx (pairTx p q)])) (hgrow : (w1.alloc o).grownBy w2 out.ownBlock) :
    RtRel l U w s m x v' (.int .i64 ((k : Int) + 1)) w2 ∧ l.length - (RowKit.intOf (.int .i64 ((k : Int) + 1))).toNat < l.length - (RowKit.intOf (.int .i64 (k : Int))).toNat := by
  have hbs : (boxU w s m x).heap.size = w.heap.size + 1 := World.size_alloc w _
  refine ⟨⟨k + 1, by simp, hk, ?_, ?_, (hb.alloc hb.size o).grown hgrow (Nat.le_trans hb.size (by rw [World.size_alloc]; omega)) (fun j hj => by have := (hown.lt j hj).1; omega)⟩, by simp [RowKit.intOf]; omega⟩
  · intro j hj hjk
    by_cases e : j = k
    · subst e; rw [hpq]
    · exact hall j hj (by omega)
  · rw [List.take_succ_eq_append_getElem hk, List.map_append, txs, List.map_append]
    have e : (List.map tx (List.map (ptx U) [l[k]])) = [tx (pairTx p q)] := by simp [ptx, hpq]
    have e2 : List.map tx (List.map (ptx U) (l.take k)) = List.take k (List.map (tx ∘ ptx U) l) := by simp [List.map_take]
    rw [e, e2]
    exact hown'

theorem impl_RunText (l : List (Nat × Nat)) (g cap : Nat) (s : ByteArray) (m x : Int) (w : World) (hl : l.length ≤ 1000) (hc : CIn w g l) (htab : Lib.TabIs Tryd.prog w "internal/strconv.uint64pow10" .u64 Lib.pow10Tab) :
    Calls Tryd.prog 19 #[.slice (some ⟨g, 0, none⟩) l.length cap, .agg #[.string s, .int .i64 m, .int .i64 x]] w (RtEnd l (unitF s.toList m x) w) := by
  obtain ⟨U, hU⟩ : ∃ U, unitF s.toList m x = U := ⟨_, rfl⟩
  have HU := Lib.hid hU
  rw [hU]
  clear hU
  have HC := Lib.hid hc
  clear hc
  by_cases h60 : 60 < l.length
  · have c0 : decide (60 < (l.length : Int)) = true := decide_eq_true (by omega)
    go_enter Tryd.func19, Tryd.ntmps19
    go_wp2
    refine bodyPost_ret (v := .tuple #[.slice none 0 0, .bool false]) (by simp [results, Tryd.results19, go_sem]) rfl (rt_no (Below.alloc (Below.refl _ _) (Nat.le_refl _) _))
  have c0 : decide (60 < (l.length : Int)) = false := decide_eq_false (by omega)
  obtain ⟨i0, hi, hz0, hz1, hz2⟩ := info_parts A_info9
  go_enter Tryd.func19, Tryd.ntmps19
  go_wp2
  go_loopw [6, 17] (fun out i wr => RtRel l U w s m x out i wr) (fun _ i _ => l.length - (RowKit.intOf i).toNat)
  case atStart => exact ⟨0, rfl, Nat.zero_le _, fun j h h' => absurd h' (by omega), World.ownsRow_nil _ _ _ _, Below.refl _ _⟩
  case round =>
    obtain ⟨k, rfl, hk, hall, hown, hb⟩ := hrel
    have HALL := Lib.hid hall
    have HOWN := Lib.hid hown
    have HB := Lib.hid hb
    obtain ⟨q0, q1, q2, hz⟩ := box_keep hb
    have HW := Lib.hid (from_box hb)
    clear hall hown hb
    by_cases hlt : k < l.length
    · have ck : decide ((k : Int) < (l.length : Int)) = true := decide_eq_true (by omega)
      have y0 : wr.cell? ⟨g, k, none⟩ = some (.complex .f32 l[k].1 l[k].2) := (HC.out.below HW.out).2 k hlt
      go_wp2_with fail
      go_at_call 47
      refine (pairI_any l[k].1 l[k].2 s m x _).mono ?_
      rintro e w1 ⟨he, hb1⟩
      rw [HU.out] at he
      obtain ⟨r, hr⟩ : ∃ r, pairF (l[k].1, l[k].2) U = r := ⟨_, rfl⟩
      rw [hr] at he
      obtain ⟨p, q, ok⟩ := r
      subst he
      have HR := Lib.hid hr
      have HB1 := Lib.hid (on_call HB.out hb1)
      have HW1 := Lib.hid (from_box HB1.out)
      have HOWN1 := Lib.hid (own_below HOWN.out hb1)
      clear hr hb1
      cases ok
      · go_wp2
        refine bodyPost_ret (v := .tuple #[.slice none 0 0, .bool false]) (by simp [results, Tryd.results19, go_sem]) rfl (rt_no HW1.out)
      · obtain ⟨hp, hq⟩ := pair_inq HR.out
        unfold InQ at hp hq
        go_wp2_with fail
        go_at_call 13
        refine (impl_FormatPair p q (by omega) (by omega) (by omega) (by omega) _ (tab_on htab HW1.out)).mono ?_
        rintro e w2 ⟨rfl, hb2⟩
        have HB2 := Lib.hid (on_call HB1.out hb2)
        have HOWN2 := Lib.hid (own_below HOWN1.out hb2)
        clear hb2
        go_wp2_with (first | (at_builtin; refine wpList_append_own _ rfl _ _ 43 rfl (w.heap.size + 1) 9 i0 (.string ByteArray.empty) 1 16 Tryd.underlying43 hi hz0 hz1 hz2 rfl (by decide) _ _ _ rfl (HOWN2.out.alloc _) ⟨w2.heap.size, 0, none⟩ 1 1 [tx (pairTx p q)] rfl rfl ?c1 ?c2 ?c3 ?c4 ?c5 ?_))
        case c1 =>
          intro j u hj
          match j, hj with
          | 0, hj => simp at hj; subst hj; simp [Addr.add]
        case c2 => intro u hu; simp at hu; subst hu; rfl
        case c3 => unfold maxLen; omega
        case c4 => omega
        case c5 =>
          have h1 := HB2.out.size
          have h2 : (boxU w s m x).heap.size = w.heap.size + 1 := World.size_alloc w _
          rw [World.size_alloc]; omega
        · intro v' w3 hown' hgrow _
          have HN := Lib.hid (rt_next hlt HR.out HALL.out HOWN2.out HB2.out hown' hgrow)
          clear hown' hgrow
          go_wp2
          case roundEnd => exact HN.out
    · obtain rfl : k = l.length := by omega
      have ck : decide ((l.length : Int) < (l.length : Int)) = false := decide_eq_false (by omega)
      have HE := Lib.hid (rt_yes (by omega) HB.out HALL.out HOWN.out)
      go_wp2
      refine bodyPost_ret (v := .tuple #[u6, .bool true]) (by simp [results, Tryd.results19, go_sem]) rfl HE.out
end Go.Proofs.YtldcciipicnooaaDoor
