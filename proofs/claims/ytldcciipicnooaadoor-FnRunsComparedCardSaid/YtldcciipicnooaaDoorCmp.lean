/-
  What is proved here: what impl.CompareRuns and laws.hasInt return: the places at which two rows of numbers are not equal within units; whether a row of places has a number. No condition.
-/
import Derived.Test.YtldcciipicnooaaDoorRunT
import Derived.Deep.RegionWith
import Derived.Deep.RegionHeld3
namespace Go.Proofs.YtldcciipicnooaaDoor
open Go.RowKit
open Go.Lib (itoa decDigits nDigits nDigits_le20 itoa_length_le)
set_option maxRecDepth 100000
set_option maxHeartbeats 4000000
set_option linter.unusedVariables false
set_option linter.unusedSimpArgs false

/-- Do two rows differ at a place? -/
def differ (l1 l2 : List (Nat × Nat)) (U : Nat × Bool) (i : Nat) : Bool := !(decide (i < l1.length) && decide (i < l2.length) && eqF (l1.getD i (0, 0)) (l2.getD i (0, 0)) U)
/-- The places, up to the k-th, at which they differ. -/
def places (l1 l2 : List (Nat × Nat)) (U : Nat × Bool) (k : Nat) : List Nat := (List.range k).filter (differ l1 l2 U)
abbrev plc (ps : List Nat) : List Value := ps.map fun p : Nat => Value.int .i64 (p : Int)
theorem places_len (l1 l2 : List (Nat × Nat)) (U : Nat × Bool) (k : Nat) : (places l1 l2 U k).length ≤ k := by
  unfold places
  have := List.length_filter_le (differ l1 l2 U) (List.range k)
  simpa using this
theorem places_no {l1 l2 : List (Nat × Nat)} {U : Nat × Bool} {k : Nat} (h : differ l1 l2 U k = false) : places l1 l2 U (k + 1) = places l1 l2 U k := by
  unfold places
  rw [List.range_succ, List.filter_append]
  simp [h]
theorem places_yes {l1 l2 : List (Nat × Nat)} {U : Nat × Bool} {k : Nat} (h : differ l1 l2 U k = true) : places l1 l2 U (k + 1) = places l1 l2 U k ++ [k] := by
  unfold places
  rw [List.range_succ, List.filter_append]
  simp [h]
theorem A_info3 : (Tryd.prog.info? 3).map (fun i => (i.zero, i.size, i.bytes)) = some (some (.int .i64 0), 1, 8) := by kernel_rfl

/-- What a call of CompareRuns ends with. -/
def CmEnd (l1 l2 : List (Nat × Nat)) (U : Nat × Bool) (w : World) (e : Ending) (w' : World) : Prop :=
  ∃ (v : Value) (ps : List Nat), e = .returned v ∧ Below w.heap.size w w' ∧ w'.ownsRow w.heap.size 3 1 v ps.length (plc ps) ∧ ps.length ≤ 1000 ∧
    (U.2 = false → ps = []) ∧ (U.2 = true → l1.length ≤ 60 → l2.length ≤ 60 → ps = places l1 l2 U (max l1.length l2.length))
/-- The loop's relation. -/
def CmRel (l1 l2 : List (Nat × Nat)) (U : Nat × Bool) (w : World) (s : ByteArray) (m x : Int) (out i : Value) (wr : World) : Prop :=
  ∃ k : Nat, i = .int .i64 k ∧ k ≤ max l1.length l2.length ∧ wr.ownsRow (w.heap.size + 1) 3 1 out (places l1 l2 U k).length (plc (places l1 l2 U k)) ∧ Below (boxU w s m x).heap.size (boxU w s m x) wr
theorem cm_nil {l1 l2 : List (Nat × Nat)} {U : Nat × Bool} {w W : World} (h : Below w.heap.size w W) (hn : U.2 = true → 60 < l1.length ∨ 60 < l2.length) : CmEnd l1 l2 U w (.returned (.slice none 0 0)) W :=
  ⟨_, [], rfl, h, World.ownsRow_nil _ _ _ _, Nat.zero_le _, fun _ => rfl, fun h a b => by have := hn h; omega⟩

theorem differ_eq {l1 l2 : List (Nat × Nat)} {U : Nat × Bool} {k : Nat} {b : Bool} (h1 : k < l1.length) (h2 : k < l2.length) (h : eqF (l1[k].1, l1[k].2) (l2[k].1, l2[k].2) U = b) : differ l1 l2 U k = !b := by
  unfold differ
  rw [List.getD_eq_getElem?_getD, List.getD_eq_getElem?_getD, List.getElem?_eq_getElem h1, List.getElem?_eq_getElem h2]
  simp only [Option.getD_some, h1, h2, decide_true, Bool.true_and]
  rw [← h]
theorem differ_out {l1 l2 : List (Nat × Nat)} {U : Nat × Bool} {k : Nat} (h : ¬ k < l1.length ∨ ¬ k < l2.length) : differ l1 l2 U k = true := by
  unfold differ
  rcases h with h | h
  · simp [h]
  · simp [h]
theorem cm_next {l1 l2 : List (Nat × Nat)} {U : Nat × Bool} {w w1 w2 : World} {s : ByteArray} {m x : Int} {out v' : Value} {o : Obj} {k : Nat} (hk : k < max l1.length l2.length) (hd : differ l1 l2 U k = true)
    (hown : w1.ownsRow (w.heap.size + 1) 3 1 out (places l1 l2 U k).length (plc (places l1 l2 U k))) (hb : Below (boxU w s m x).heap.size (boxU w s m x) w1)
    (hown' : w2.ownsRow (w.heap.size + 1) 3 1 v' ((places l1 l2 U k).length + 1) (plc (places l1 l2 U k) ++ [.int .i64 (k : Int)])) (hgrow : (w1.alloc o).grownBy w2 out.ownBlock) :
    CmRel l1 l2 U w s m x v' (.int .i64 ((k : Int) + 1)) w2 ∧ max l1.length l2.length - (RowKit.intOf (.int .i64 ((k : Int) + 1))).toNat < max l1.length l2.length - (RowKit.intOf (.int .i64 (k : Int))).toNat := by
  have hbs : (boxU w s m x).heap.size = w.heap.size + 1 := World.size_alloc w _
  refine ⟨⟨k + 1, by simp, hk, ?_, (hb.alloc hb.size o).grown hgrow (Nat.le_trans hb.size (by rw [World.size_alloc]; omega)) (fun j hj => by have := (hown.lt j hj).1; omega)⟩, by simp [RowKit.intOf]; omega⟩
  rw [places_yes hd]
  simpa [plc] using hown'
theorem cm_skip {l1 l2 : List (Nat × Nat)} {U : Nat × Bool} {w w1 : World} {s : ByteArray} {m x : Int} {out : Value} {k : Nat} (hk : k < max l1.length l2.length) (hd : differ l1 l2 U k = false)
    (hown : w1.ownsRow (w.heap.size + 1) 3 1 out (places l1 l2 U k).length (plc (places l1 l2 U k))) (hb : Below (boxU w s m x).heap.size (boxU w s m x) w1) :
    CmRel l1 l2 U w s m x out (.int .i64 ((k : Int) + 1)) w1 ∧ max l1.length l2.length - (RowKit.intOf (.int .i64 ((k : Int) + 1))).toNat < max l1.length l2.length - (RowKit.intOf (.int .i64 (k : Int))).toNat := by
  refine ⟨⟨k + 1, by simp, hk, ?_, hb⟩, by simp [RowKit.intOf]; omega⟩
  rw [places_no hd]
  exact hown
theorem cm_end {l1 l2 : List (Nat × Nat)} {U : Nat × Bool} {w w1 : World} {s : ByteArray} {m x : Int} {out : Value} (h1 : l1.length ≤ 60) (h2 : l2.length ≤ 60) (hT : U.2 = true)
    (hown : w1.ownsRow (w.heap.size + 1) 3 1 out (places l1 l2 U (max l1.length l2.length)).length (plc (places l1 l2 U (max l1.length l2.length)))) (hb : Below (boxU w s m x).heap.size (boxU w s m x) w1) : CmEnd l1 l2 U w (.returned out) w1 := by
  refine ⟨out, places l1 l2 U (max l1.length l2.length), rfl, from_box hb, World.ownsRow.mono hown (by omega), ?_, fun h => ?_, fun _ _ _ => rfl⟩
  · have := places_len l1 l2 U (max l1.length l2.length); omega
  · rw [hT] at h; cases h
theorem cm_keep {w wr W : World} {s : ByteArray} {m x : Int} {g1 g2 k : Nat} {l1 l2 : List (Nat × Nat)} (hb : Below (boxU w s m x).heap.size (boxU w s m x) wr) (h1 : CIn w g1 l1) (h2 : CIn w g2 l2) (k1 : k < l1.length) (k2 : k < l2.length) (h : Below wr.heap.size wr W) :
    (Below wr.heap.size wr W ∧ W.cell? ⟨w.heap.size, 0, none⟩ = some (.string s) ∧ W.cell? ⟨w.heap.size, 1, none⟩ = some (.int .i64 m) ∧ W.cell? ⟨w.heap.size, 2, none⟩ = some (.int .i64 x) ∧ W.cell? ⟨g1, k, none⟩ = some (.complex .f32 l1[k].1 l1[k].2) ∧ W.cell? ⟨g2, k, none⟩ = some (.complex .f32 l2[k].1 l2[k].2)) := by
  have hW := on_call hb h
  obtain ⟨q0, q1, q2, _⟩ := box_keep hW
  exact ⟨h, q0, q1, q2, (h1.below (from_box hW)).2 k k1, (h2.below (from_box hW)).2 k k2⟩
theorem below_drew {w W : World} (h : Below w.drew.heap.size w.drew W) : Below w.heap.size w W := (Below.drew (Below.refl _ _)).trans h

theorem impl_CompareRuns (l1 l2 : List (Nat × Nat)) (g1 c1 g2 c2 : Nat) (s : ByteArray) (m x : Int) (w : World) (hl1 : l1.length ≤ 500) (hl2 : l2.length ≤ 500) (hc1 : CIn w g1 l1) (hc2 : CIn w g2 l2) :
    Calls Tryd.prog 18 #[.slice (some ⟨g1, 0, none⟩) l1.length c1, .slice (some ⟨g2, 0, none⟩) l2.length c2, .agg #[.string s, .int .i64 m, .int .i64 x]] w (CmEnd l1 l2 (unitF s.toList m x) w) := by
  obtain ⟨U, hU⟩ : ∃ U, unitF s.toList m x = U := ⟨_, rfl⟩
  have HU := Lib.hid hU
  rw [hU]
  clear hU
  have HC1 := Lib.hid hc1
  have HC2 := Lib.hid hc2
  clear hc1 hc2
  obtain ⟨i0, hi, hz0, hz1, hz2⟩ := info_parts A_info3
  go_enter Tryd.func18, Tryd.ntmps18
  go_wp2_with fail
  go_at_call 20
  refine (unitI_any s m x _).mono ?_
  rintro e w1 ⟨he, o1, n1, hw1⟩
  rw [HU.out] at he
  subst he
  have hb1 : Below (boxU w s m x).heap.size (boxU w s m x) w1 := by rw [hw1]; exact bl_drewN (bl_alloc (Below.refl _ _) _) _
  clear hw1
  have HB1 := Lib.hid hb1
  obtain ⟨q0, q1, q2, hz⟩ := box_keep hb1
  have HW1 := Lib.hid (from_box hb1)
  clear hb1
  obtain ⟨uv, uok⟩ := U
  cases uok
  · have HE := Lib.hid (cm_nil (l1 := l1) (l2 := l2) (U := (uv, false)) HW1.out (fun h => by cases h))
    go_wp2
    go_ret
    exact HE.out
  by_cases h1 : 60 < l1.length
  · have d1 : decide (60 < (l1.length : Int)) = true := decide_eq_true (by omega)
    have HE := Lib.hid (cm_nil (l1 := l1) (l2 := l2) (U := (uv, true)) HW1.out (fun _ => Or.inl h1))
    go_wp2
    go_ret
    exact HE.out
  have d1 : decide (60 < (l1.length : Int)) = false := decide_eq_false (by omega)
  by_cases h2 : 60 < l2.length
  · have d2 : decide (60 < (l2.length : Int)) = true := decide_eq_true (by omega)
    have HE := Lib.hid (cm_nil (l1 := l1) (l2 := l2) (U := (uv, true)) HW1.out (fun _ => Or.inr h2))
    go_wp2
    go_ret
    exact HE.out
  have d2 : decide (60 < (l2.length : Int)) = false := decide_eq_false (by omega)
  go_wp2
  go_loopw [9, 10] (fun out i wr => CmRel l1 l2 (uv, true) w s m x out i wr) (fun _ i _ => max l1.length l2.length - (RowKit.intOf i).toNat)
  case atStart => exact ⟨0, rfl, Nat.zero_le _, World.ownsRow_nil _ _ _ _, HB1.out⟩
  case round =>
    clear q0 q1 q2 hz
    obtain ⟨k, rfl, hk, hown, hb⟩ := hrel
    have HOWN := Lib.hid hown
    have HB := Lib.hid hb
    obtain ⟨q0, q1, q2, hz⟩ := box_keep hb
    have HW := Lib.hid (from_box hb)
    clear hown hb
    by_cases hkm : k < max l1.length l2.length
    · have ck : decide ((k : Int) < max (l1.length : Int) (l2.length : Int)) = true := decide_eq_true (by omega)
      by_cases h1k : k < l1.length
      · have d3 : decide (l1.length ≤ k) = false := decide_eq_false (by omega)
        by_cases h2k : k < l2.length
        · have d4 : decide (l2.length ≤ k) = false := decide_eq_false (by omega)
          have y1 : wr.cell? ⟨g1, k, none⟩ = some (.complex .f32 l1[k].1 l1[k].2) := (HC1.out.below HW.out).2 k h1k
          have y2 : wr.cell? ⟨g2, k, none⟩ = some (.complex .f32 l2[k].1 l2[k].2) := (HC2.out.below HW.out).2 k h2k
          obtain ⟨b, hq⟩ : ∃ b, eqF (l1[k].1, l1[k].2) (l2[k].1, l2[k].2) (uv, true) = b := ⟨_, rfl⟩
          have HQ := Lib.hid hq
          clear hq
          go_wp2_with fail
          go_region_held3 (fun W => (Below wr.heap.size wr W ∧ W.cell? ⟨w.heap.size, 0, none⟩ = some (.string s) ∧ W.cell? ⟨w.heap.size, 1, none⟩ = some (.int .i64 m) ∧ W.cell? ⟨w.heap.size, 2, none⟩ = some (.int .i64 x) ∧ W.cell? ⟨g1, k, none⟩ = some (.complex .f32 l1[k].1 l1[k].2) ∧ W.cell? ⟨g2, k, none⟩ = some (.complex .f32 l2[k].1 l2[k].2))) (exact cm_keep HB.out HC1.out HC2.out h1k h2k (by repeat (first | (with_reducible exact Below.refl _ _) | (with_reducible refine Below.drew ?_) | (with_reducible refine on_call ?_ (by assumption))))) (first | (go_at_call 46; go_split_ands; (with_reducible refine (equalWithin_any _ _ _ _ s m x _).mono ?_); rintro en wC ⟨he, hbC⟩; rw [HU.out, HQ.out] at he; subst he))
          have HBW := Lib.hid (on_call HB.out (below_drew hbC))
          have HOW := Lib.hid (own_below HOWN.out (below_drew hbC))
          clear hbC
          go_split_ands
          cases b
          · have hsz := HBW.out.size
            have hbs : (boxU w s m x).heap.size = w.heap.size + 1 := World.size_alloc w _
            have hpl := places_len l1 l2 (uv, true) k
            go_wp2_with (first | (at_builtin; refine wpList_append_own _ rfl _ _ 41 rfl (w.heap.size + 1) 3 i0 (.int .i64 0) 1 8 Tryd.underlying41 hi hz0 hz1 hz2 rfl (by decide) _ _ _ rfl (HOW.out.alloc _) ⟨wC.heap.size, 0, none⟩ 1 1 [.int .i64 (k : Int)] rfl rfl ?c1 ?c2 ?c3 ?c4 ?c5 ?_))
            case c1 =>
              intro j u hj
              match j, hj with
              | 0, hj => simp at hj; subst hj; simp [Addr.add]
            case c2 => intro u hu; simp at hu; subst hu; rfl
            case c3 => unfold maxLen; omega
            case c4 => omega
            case c5 => first | (rw [World.size_alloc]; omega) | (show w.heap.size + 1 ≤ (wr.alloc _).heap.size; rw [World.size_alloc]; omega)
            · intro v' w3 hown' hgrow _
              have HN := Lib.hid (cm_next hkm (differ_eq h1k h2k HQ.out) HOW.out HBW.out hown' hgrow)
              clear hown' hgrow
              go_wp2
              case roundEnd => exact HN.out
          · have HN := Lib.hid (cm_skip hkm (differ_eq h1k h2k HQ.out) HOW.out HBW.out)
            go_wp2
            case roundEnd => exact HN.out
        · have d4 : decide (l2.length ≤ k) = true := decide_eq_true (by omega)
          have HBW := Lib.hid (show Below (boxU w s m x).heap.size (boxU w s m x) wr.drew from Below.drew HB.out)
          have HOW := Lib.hid (World.ownsRow.drew HOWN.out)
          go_wp2_with fail
          go_region
          have hsz := HBW.out.size
          have hbs : (boxU w s m x).heap.size = w.heap.size + 1 := World.size_alloc w _
          have hpl := places_len l1 l2 (uv, true) k
          go_wp2_with (first | (at_builtin; refine wpList_append_own _ rfl _ _ 41 rfl (w.heap.size + 1) 3 i0 (.int .i64 0) 1 8 Tryd.underlying41 hi hz0 hz1 hz2 rfl (by decide) _ _ _ rfl (HOW.out.alloc _) ⟨wr.heap.size, 0, none⟩ 1 1 [.int .i64 (k : Int)] rfl rfl ?c1 ?c2 ?c3 ?c4 ?c5 ?_))
          case c1 =>
            intro j u hj
            match j, hj with
            | 0, hj => simp at hj; subst hj; simp [Addr.add]
          case c2 => intro u hu; simp at hu; subst hu; rfl
          case c3 => unfold maxLen; omega
          case c4 => omega
          case c5 => first | (rw [World.size_alloc]; omega) | (show w.heap.size + 1 ≤ (wr.alloc _).heap.size; rw [World.size_alloc]; omega)
          · intro v' w3 hown' hgrow _
            have HN := Lib.hid (cm_next hkm (differ_out (Or.inr h2k)) HOW.out HBW.out hown' hgrow)
            clear hown' hgrow
            go_wp2
            case roundEnd => exact HN.out
      · have d3 : decide (l1.length ≤ k) = true := decide_eq_true (by omega)
        have HBW := Lib.hid (show Below (boxU w s m x).heap.size (boxU w s m x) wr.drew from Below.drew HB.out)
        have HOW := Lib.hid (World.ownsRow.drew HOWN.out)
        go_wp2_with fail
        go_region
        have hsz := HBW.out.size
        have hbs : (boxU w s m x).heap.size = w.heap.size + 1 := World.size_alloc w _
        have hpl := places_len l1 l2 (uv, true) k
        go_wp2_with (first | (at_builtin; refine wpList_append_own _ rfl _ _ 41 rfl (w.heap.size + 1) 3 i0 (.int .i64 0) 1 8 Tryd.underlying41 hi hz0 hz1 hz2 rfl (by decide) _ _ _ rfl (HOW.out.alloc _) ⟨wr.heap.size, 0, none⟩ 1 1 [.int .i64 (k : Int)] rfl rfl ?c1 ?c2 ?c3 ?c4 ?c5 ?_))
        case c1 =>
          intro j u hj
          match j, hj with
          | 0, hj => simp at hj; subst hj; simp [Addr.add]
        case c2 => intro u hu; simp at hu; subst hu; rfl
        case c3 => unfold maxLen; omega
        case c4 => omega
        case c5 => first | (rw [World.size_alloc]; omega) | (show w.heap.size + 1 ≤ (wr.alloc _).heap.size; rw [World.size_alloc]; omega)
        · intro v' w3 hown' hgrow _
          have HN := Lib.hid (cm_next hkm (differ_out (Or.inl h1k)) HOW.out HBW.out hown' hgrow)
          clear hown' hgrow
          go_wp2
          case roundEnd => exact HN.out
    · have ck : decide ((k : Int) < max (l1.length : Int) (l2.length : Int)) = false := decide_eq_false (by omega)
      obtain rfl : k = max l1.length l2.length := by omega
      have HE := Lib.hid (cm_end (U := (uv, true)) (by omega) (by omega) rfl HOWN.out HB.out)
      go_wp2
      go_ret
      exact HE.out

/-- Whether a row of places has a number. -/
theorem hasInt_any (v : Value) (ps : List Nat) (n i : Nat) (w : World) (hn : n = ps.length) (hp : ps.length ≤ 1000) (hown : w.ownsRow 0 3 1 v n (plc ps)) :
    Calls Tryd.prog 22 #[v, .int .i64 (i : Int)] w fun e w' => e = .returned (.bool (decide (i ∈ ps))) ∧ w' = w := by
  subst hn
  rcases hown.2 with ⟨h1, h2⟩ | ⟨g, cap, cur, h1, h2, h3, h4⟩
  · subst h1
    have hps : ps = [] := List.eq_nil_of_length_eq_zero h2
    subst hps
    go_enter Tryd.func22, Tryd.ntmps22
    go_wp2
    go_loopw [5] (fun j wr => j = .int .i64 0 ∧ wr = w) (fun _ _ => 0)
    case atStart => exact ⟨rfl, rfl⟩
    case round =>
      obtain ⟨rfl, rfl⟩ := hrel
      go_wp2
      go_ret
      exact ⟨by first | rfl | (simp; done), rfl⟩
  · subst h1
    have hcell : ∀ j (h : j < ps.length), w.cell? ⟨g, j, none⟩ = some (.int .i64 (ps[j] : Int)) := fun j h => by
      rw [hown.cellAt j (by omega)]
      simp [plc, h]
    have HC := Lib.hid hcell
    clear hcell hown h3 h4 h2
    go_enter Tryd.func22, Tryd.ntmps22
    go_wp2
    go_loopw [5] (fun j wr => ∃ k : Nat, j = .int .i64 k ∧ k ≤ ps.length ∧ (∀ a ∈ ps.take k, a ≠ i) ∧ wr = w) (fun j _ => ps.length - (RowKit.intOf j).toNat)
    case atStart => exact ⟨0, rfl, Nat.zero_le _, by simp, rfl⟩
    case round =>
      obtain ⟨k, rfl, hk, hno, rfl⟩ := hrel
      have HN := Lib.hid hno
      clear hno
      by_cases hlt : k < ps.length
      · have ck : decide ((k : Int) < (ps.length : Int)) = true := decide_eq_true (by omega)
        have y0 := HC.out k hlt
        by_cases hi : ps[k] = i
        · have c1 : ((ps[k] : Int) == (i : Int)) = true := beq_iff_eq.2 (by omega)
          have HE : Hid (decide (i ∈ ps) = true) := Lib.hid (decide_eq_true (by rw [← hi]; exact List.getElem_mem hlt))
          go_wp2
          go_ret
          exact ⟨by rw [HE.out]; rfl, rfl⟩
        · have c1 : ((ps[k] : Int) == (i : Int)) = false := beq_eq_false_iff_ne.2 (by omega)
          have HR : Hid (∀ a ∈ ps.take (k + 1), a ≠ i) := Lib.hid (fun a ha => by
            rw [List.take_succ_eq_append_getElem hlt] at ha
            rcases List.mem_append.1 ha with h | h
            · exact HN.out a h
            · simp at h; subst h; exact hi)
          go_wp2
          case roundEnd => exact ⟨⟨k + 1, by simp, hlt, HR.out, by first | rfl | trivial⟩, by simp [RowKit.intOf]; omega⟩
      · have ck : decide ((k : Int) < (ps.length : Int)) = false := decide_eq_false (by omega)
        have HE : Hid (decide (i ∈ ps) = false) := Lib.hid (decide_eq_false (fun h => by
          have hk2 : ps.take k = ps := List.take_of_length_le (by omega)
          have := HN.out i (by rw [hk2]; exact h)
          exact this rfl))
        go_wp2
        go_ret
        exact ⟨by rw [HE.out]; rfl, rfl⟩
end Go.Proofs.YtldcciipicnooaaDoor
