/- A drawn expression is one for the program and for the reference: operands, heights, ExprOk. Condition: the nodes are drawn ones and the row is an expression of at most 60 nodes. -/
import Derived.Test.YtjgjgjkffoagoaaDoorNodeOk
namespace Go.Proofs.YtjgjgjkffoagoaaDoor
open Go.RowKit
attribute [local go_sem] run_store_float run_store_complex
set_option maxRecDepth 100000
set_option maxHeartbeats 4000000
set_option linter.unusedVariables false
set_option linter.unusedSimpArgs false

theorem own_below {base : Nat} {e : TypeId} {size : Nat} {v : Value} {n : Nat} {xs : List Value} {w w' : World} (h : w.ownsRow base e size v n xs) (hb : Below w.heap.size w w') : w'.ownsRow base e size v n xs := by
  refine ⟨h.1, ?_⟩
  rcases h.2 with h2 | ⟨g, cap, cur, h1, h2, h3, h4⟩
  · exact .inl h2
  · exact .inr ⟨g, cap, cur, h1, h2, (hb.block g (Array.getElem?_eq_some_iff.1 h3).1).trans h3, h4⟩
/-- The cells of a row of nodes from a block's start. -/
def NCells (w : World) (g : Nat) (l : List Nd) : Prop := ∀ (k : Nat) (h : k < l.length), w.cell? ⟨g, k * 3, none⟩ = some (.int .i64 l[k].kind) ∧ w.cell? ⟨g, k * 3 + 1, none⟩ = some (.int .i64 l[k].slot) ∧ w.cell? ⟨g, k * 3 + 2, none⟩ = some (.complex .f64 l[k].re l[k].im)
/-- A slice value that shows a row of nodes. -/
def NView (w : World) (v : Value) (l : List Nd) : Prop := ∃ g cap : Nat, v = .slice (some ⟨g, 0, none⟩) l.length cap ∧ g < w.heap.size ∧ NCells w g l
theorem NCells.below {w w' : World} {g : Nat} {l : List Nd} (h : NCells w g l) (hb : Below w.heap.size w w') (hg : g < w.heap.size) : NCells w' g l := fun k hk => by
  obtain ⟨a, b, c⟩ := h k hk
  exact ⟨(hb.cell (p := ⟨g, k * 3, none⟩) hg).trans a, (hb.cell (p := ⟨g, k * 3 + 1, none⟩) hg).trans b, (hb.cell (p := ⟨g, k * 3 + 2, none⟩) hg).trans c⟩
theorem NView.below {w w' : World} {v : Value} {l : List Nd} (h : NView w v l) (hb : Below w.heap.size w w') : NView w' v l := by
  obtain ⟨g, cap, rfl, hg, hc⟩ := h
  exact ⟨g, cap, rfl, Nat.lt_of_lt_of_le hg hb.size, hc.below hb hg⟩
theorem flat_get : ∀ (l : List Nd) (k : Nat) (h : k < l.length), (l.flatMap ndCells)[k * 3]? = some (.int .i64 l[k].kind) ∧ (l.flatMap ndCells)[k * 3 + 1]? = some (.int .i64 l[k].slot) ∧ (l.flatMap ndCells)[k * 3 + 2]? = some (.complex .f64 l[k].re l[k].im)
  | x :: l, 0, h => ⟨rfl, rfl, rfl⟩
  | x :: l, k + 1, h => by
    have := flat_get l k (by simpa using h)
    rw [show (k + 1) * 3 = k * 3 + 3 by omega, show k * 3 + 3 + 1 = k * 3 + 1 + 3 by omega, show k * 3 + 3 + 2 = k * 3 + 2 + 3 by omega]
    exact this
theorem NRow.view {w : World} {v : Value} {l : List Nd} {g : Nat} (h : NRow w v l g) : NView w v l := by
  have hlt := h.lt
  obtain ⟨cap, rfl, hown⟩ := h
  refine ⟨g, cap, rfl, hlt, fun k hk => ?_⟩
  obtain ⟨a, b, c⟩ := flat_get l k hk
  have hc := hown.cells rfl
  have e : ∀ j, (⟨g, 0, none⟩ : Addr).add j = ⟨g, j, none⟩ := fun j => by unfold Addr.add; split <;> simp_all
  refine ⟨?_, ?_, ?_⟩
  · rw [← e]; exact hc _ _ a
  · rw [← e]; exact hc _ _ b
  · rw [← e]; exact hc _ _ c

/-- How many operands a kind takes. -/
def ar (k : Int) : Nat := if 8 ≤ k then 2 else if 3 ≤ k then 1 else 0
theorem operands_any (k : Int) (w : World) : Calls Tryd.prog 19 #[.int .i64 k] w fun e w' => e = .returned (.int .i64 (ar k)) ∧ w' = w := by
  go_enter Tryd.func19, Tryd.ntmps19
  by_cases h8 : 8 ≤ k
  · have d : decide (8 ≤ k) = true := decide_eq_true h8
    go_wp2
    go_ret
    exact ⟨by unfold ar; rw [if_pos h8]; rfl, rfl⟩
  · have d : decide (8 ≤ k) = false := decide_eq_false h8
    by_cases h3 : 3 ≤ k
    · have d3 : decide (3 ≤ k) = true := decide_eq_true h3
      go_wp2
      go_ret
      exact ⟨by unfold ar; rw [if_neg (by omega), if_pos h3]; rfl, rfl⟩
    · have d3 : decide (3 ≤ k) = false := decide_eq_false h3
      go_wp2
      go_ret
      exact ⟨by unfold ar; rw [if_neg (by omega), if_neg (by omega)]; rfl, rfl⟩
theorem operands_is (k : Int) (a : Nat) (w : World) (h : ar k = a) : Calls Tryd.prog 19 #[.int .i64 k] w fun e w' => e = .returned (.int .i64 a) ∧ w' = w := h ▸ operands_any k w
theorem takes_any (k : Int) (w : World) : Calls Tryd.prog 50 #[.int .i64 k] w fun e w' => e = .returned (.int .i64 (ar k)) ∧ w' = w := by
  go_enter Tryd.func50, Tryd.ntmps50
  by_cases h2 : k ≤ 2
  · have d : decide (k ≤ 2) = true := decide_eq_true h2
    go_wp2
    go_ret
    exact ⟨by unfold ar; rw [if_neg (by omega), if_neg (by omega)]; rfl, rfl⟩
  · have d : decide (k ≤ 2) = false := decide_eq_false h2
    by_cases h7 : k ≤ 7
    · have d7 : decide (k ≤ 7) = true := decide_eq_true h7
      go_wp2
      go_ret
      exact ⟨by unfold ar; rw [if_neg (by omega), if_pos (by omega)]; rfl, rfl⟩
    · have d7 : decide (k ≤ 7) = false := decide_eq_false h7
      go_wp2
      go_ret
      exact ⟨by unfold ar; rw [if_pos (by omega)]; rfl, rfl⟩

theorem takes_is (k : Int) (a : Nat) (w : World) (h : ar k = a) : Calls Tryd.prog 50 #[.int .i64 k] w fun e w' => e = .returned (.int .i64 a) ∧ w' = w := h ▸ takes_any k w
theorem hrun_le : ∀ (l : List Nd) (h m : Nat), hrun h l = some m → m ≤ h + l.length
  | [], h, m, e => by
    have : h = m := Option.some.inj e
    simp; omega
  | x :: l, h, m, e => by
    unfold hrun at e
    split at e
    · cases e
    · have := hrun_le l _ m e
      simp only [List.length_cons]
      omega
/-- One node on. -/
theorem hrun_step {l : List Nd} (hex : IsEx l) {k m : Nat} (hk : k < l.length) (h : hrun 0 (l.take k) = some m) : ar l[k].kind ≤ m ∧ hrun 0 (l.take (k + 1)) = some (m + 1 - ar l[k].kind) ∧ 1 ≤ m + 1 - ar l[k].kind ∧ m + 1 - ar l[k].kind ≤ k + 1 ∧ m ≤ k := by
  have e1 : hrun 0 (l.take (k + 1)) = if m < ar l[k].kind then none else some (m + 1 - ar l[k].kind) := by
    rw [List.take_succ_eq_append_getElem hk, hrun_append, h]
    rfl
  have hle := hrun_le _ _ _ h
  rw [List.length_take] at hle
  have hm : ¬ m < ar l[k].kind := fun hlt => by
    have h0 := hex 0
    rw [← List.take_append_drop (k + 1) l, hrun_append, e1, if_pos hlt] at h0
    cases h0
  rw [if_neg hm] at e1
  exact ⟨by omega, e1, by omega, by omega, by omega⟩
theorem hrun_end {l : List Nd} (hex : IsEx l) {k m : Nat} (hk : ¬ k < l.length) (h : hrun 0 (l.take k) = some m) : m = 1 := by
  rw [List.take_of_length_le (by omega), hex 0] at h
  exact (Option.some.inj h).symm

abbrev ints (hs : List Nat) : List Value := hs.map fun h : Nat => Value.int .i64 (h : Int)
theorem A_infoI : (Tryd.prog.info? 3).map (fun i => (i.zero, i.size, i.bytes)) = some (some (.int .i64 0), 1, 8) := by kernel_rfl
/-- The loop's relation of heights. -/
def HtRel (l : List Nd) (w : World) (out n i : Value) (wr : World) : Prop :=
  ∃ (k m : Nat) (hs : List Nat), i = .int .i64 k ∧ n = .int .i64 m ∧ k ≤ l.length ∧ hrun 0 (l.take k) = some m ∧ hs.length = k ∧ (∀ h ∈ hs, 1 ≤ h ∧ h ≤ l.length) ∧ wr.ownsRow w.heap.size 3 1 out k (ints hs) ∧ Below w.heap.size w wr
def HtEnd (l : List Nd) (w : World) (e : Ending) (w' : World) : Prop :=
  ∃ (v : Value) (hs : List Nat), e = .returned (.tuple #[v, .bool true]) ∧ w'.ownsRow w.heap.size 3 1 v l.length (ints hs) ∧ hs.length = l.length ∧ (∀ h ∈ hs, 1 ≤ h ∧ h ≤ l.length) ∧ Below w.heap.size w w'

theorem ht_next {l : List Nd} {w W W' : World} {out v' : Value} {k m a : Nat} {hs : List Nat} {o : Obj} (hk : k < l.length) (ham : a ≤ m) (hr : hrun 0 (l.take (k + 1)) = some (m + 1 - a)) (h1 : 1 ≤ m + 1 - a) (h2 : m + 1 - a ≤ k + 1) (hhs : hs.length = k) (hall : ∀ h ∈ hs, 1 ≤ h ∧ h ≤ l.length)
    (hown : W.ownsRow w.heap.size 3 1 out k (ints hs)) (hb : Below w.heap.size w W) (hown' : W'.ownsRow w.heap.size 3 1 v' (k + 1) (ints hs ++ [.int .i64 ((m : Int) + (1 - (a : Int)))])) (hgrow : (W.alloc o).grownBy W' out.ownBlock) :
    HtRel l w v' (.int .i64 ((m : Int) + (1 - (a : Int)))) (.int .i64 ((k : Int) + 1)) W' ∧ l.length - (RowKit.intOf (.int .i64 ((k : Int) + 1))).toNat < l.length - (RowKit.intOf (.int .i64 (k : Int))).toNat := by
  have e : (m : Int) + (1 - (a : Int)) = ((m + 1 - a : Nat) : Int) := by omega
  rw [e] at hown' ⊢
  refine ⟨⟨k + 1, m + 1 - a, hs ++ [m + 1 - a], by simp, rfl, hk, hr, by simp [hhs], fun h hh => ?_, by simpa [ints] using hown', (hb.alloc hb.size o).grown hgrow (Nat.le_trans hb.size (by rw [World.size_alloc]; omega)) (fun j hj => by have := (hown.lt j hj).1; omega)⟩, by simp [RowKit.intOf]; omega⟩
  rcases List.mem_append.1 hh with hh | hh
  · exact hall h hh
  · simp at hh
    omega
theorem heights_any (l : List Nd) (v : Value) (w : World) (hv : NView w v l) (hl : 1 ≤ l.length ∧ l.length ≤ 60) (hg : ∀ x ∈ l, GoodN x) (hex : IsEx l) :
    Calls Tryd.prog 23 #[v] w (HtEnd l w) := by
  obtain ⟨g, cap, rfl, hgw, hcells⟩ := hv
  have HC := Lib.hid hcells
  clear hcells
  have hd : (decide ((1 : Int) ≤ l.length) && decide ((l.length : Int) ≤ 60)) = true := by simp; omega
  have HD := Lib.hid hd
  clear hd
  obtain ⟨i0, hi, hz0, hz1, hz2⟩ := info_parts A_infoI
  go_enter Tryd.func23, Tryd.ntmps23
  go_wp2_with (go_at_call 39; (with_reducible refine (within_is _ _ _ true _ HD.out).mono ?_); rintro e w1 ⟨rfl, hw⟩; have hw := hw.symm; subst hw)
  go_loopw [4, 5, 14] (fun out n i wr => HtRel l w out n i wr) (fun _ _ i _ => l.length - (RowKit.intOf i).toNat)
  case atStart => exact ⟨0, 0, [], rfl, rfl, Nat.zero_le _, rfl, rfl, by simp, World.ownsRow_nil _ _ _ _, Below.refl _ _⟩
  case round =>
    obtain ⟨k, m, hs, rfl, rfl, hk, hrn, hhs, hall, hown, hb⟩ := hrel
    have HOWN := Lib.hid hown
    have HB := Lib.hid hb
    clear hown hb
    by_cases hkl : k < l.length
    · have ck : decide ((k : Int) < (l.length : Int)) = true := decide_eq_true (by omega)
      obtain ⟨s1, s2, s3, s4, s5⟩ := hrun_step hex hkl hrn
      have hcw : NCells wr g l := HC.out.below HB.out hgw
      obtain ⟨x0, x1, x2⟩ := hcw k hkl
      clear hcw
      go_wp2_with fail
      go_at_call 40
      refine (nodeOkI l[k] (hg _ (List.getElem_mem hkl)) _).mono ?_
      rintro e w2 ⟨rfl, hb2⟩
      obtain ⟨a, ha⟩ : ∃ a, ar l[k].kind = a := ⟨_, rfl⟩
      rw [ha] at s1 s2 s3 s4
      have HA := Lib.hid ha
      clear ha
      have HB2 := Lib.hid ((bl_alloc HB.out _).trans (hb2.mono (bl_alloc HB.out _).size))
      have HO2 := Lib.hid (own_below HOWN.out (Below.trans (bl_alloc (Below.refl _ _) _) (hb2.mono (by rw [World.size_alloc]; omega))))
      have BX := (Blk.new wr 43 #[.int .i64 l[k].kind, .int .i64 l[k].slot, .complex .f64 l[k].re l[k].im]).below hb2 (by rw [World.size_alloc]; omega)
      have b0 := BX.cell 0
      have b1 := BX.cell 1
      have b2 := BX.cell 2
      have hzx := BX.lt
      have hzw := HB.out.size
      clear BX hb2 x0 x1 x2
      have cm : decide ((m : Int) < (a : Int)) = false := decide_eq_false (by omega)
      have hm60 : m ≤ 60 := by omega
      go_wp2_with (first | (go_at_call 19; (with_reducible refine (operands_is _ a _ HA.out).mono ?_); rintro e w3 ⟨rfl, hw⟩; have hw := hw.symm; subst hw) | (at_builtin; refine wpList_append_own _ rfl _ _ 50 rfl w.heap.size 3 i0 (.int .i64 0) 1 8 Tryd.underlying50 hi hz0 hz1 hz2 rfl (by decide) _ _ _ rfl (HO2.out.alloc _) ⟨w2.heap.size, 0, none⟩ 1 1 [.int .i64 ((m : Int) + (1 - (a : Int)))] rfl rfl ?c1 ?c2 ?c3 ?c4 ?c5 ?_))
      case c1 =>
        intro j u hj
        match j, hj with
        | 0, hj => simp at hj; subst hj; simp [Addr.add]
      case c2 => intro u hu; simp at hu; subst hu; rfl
      case c3 => unfold maxLen; omega
      case c4 => omega
      case c5 => rw [World.size_alloc]; omega
      · intro v' w4 hown' hgrow _
        have HN := Lib.hid (ht_next hkl s1 s2 s3 s4 hhs hall HO2.out HB2.out hown' hgrow)
        clear hown' hgrow
        go_wp2
        case roundEnd => exact HN.out
    · have ck : decide ((k : Int) < (l.length : Int)) = false := decide_eq_false (by omega)
      obtain rfl := hrun_end hex hkl hrn
      obtain rfl : k = l.length := by omega
      have HE : HtEnd l w (.returned (.tuple #[u4, .bool true])) wr := ⟨u4, hs, rfl, HOWN.out, hhs, hall, HB.out⟩
      go_wp2
      exact bodyPost_ret (v := .tuple #[u4, .bool true]) (by simp (maxDischargeDepth := 6) [results, Tryd.results23, go_sem]) rfl HE
end Go.Proofs.YtjgjgjkffoagoaaDoor
