/- What the program's SlotsOf and DepthOf give at a drawn expression: a row that has every slot that is named; a number from 1 to the number of nodes. And hasInt. Conditions: drawn nodes, an expression of at most 60 of them. -/
import Derived.Test.YtjacimccpadgeaaPlain
import Derived.Test.YtjacimccpadgeaaShelf
import Derived.Lib.OwnBridge
import Derived.Sort.OwnSortedInts
namespace Go.Proofs.Ytjacimccpadgeaa
open Go.RowKit
attribute [local go_sem] run_store_float run_store_complex
set_option maxRecDepth 100000
set_option maxHeartbeats 4000000
set_option linter.unusedVariables false
set_option linter.unusedSimpArgs false

abbrev ivs (zs : List Int) : List Value := zs.map (Value.int .i64)
/-- The slots that a row of nodes names, in order. -/
def sls (l : List Nd) : List Int := (l.filter fun x => decide (x.kind = 2)).map (·.slot)
theorem sls_step {l : List Nd} {k : Nat} (hk : k < l.length) : sls (l.take (k + 1)) = sls (l.take k) ++ if l[k].kind = 2 then [l[k].slot] else [] := by
  unfold sls
  rw [List.take_succ_eq_append_getElem hk, List.filter_append, List.map_append]
  congr 1
  by_cases h : l[k].kind = 2
  · simp [h]
  · simp [h]
theorem sls_len (l : List Nd) : (sls l).length ≤ l.length := by
  unfold sls
  rw [List.length_map]
  exact List.length_filter_le _ _
theorem mem_sls {l : List Nd} {x : Nd} (h : x ∈ l) (hk : x.kind = 2) : x.slot ∈ sls l := List.mem_map.2 ⟨x, List.mem_filter.2 ⟨h, decide_eq_true hk⟩, rfl⟩
theorem mem_compact {zs : List Int} {m : Int} (h : m ∈ zs) : m ∈ Lib.compact zs := by
  obtain ⟨j, hj, rfl⟩ := List.getElem_of_mem h
  have key : ∀ j (h : j < zs.length), zs.toArray[j]! ∈ Lib.compact zs := by
    intro j
    induction j with
    | zero =>
      intro hj
      exact List.mem_map.2 ⟨0, List.mem_filter.2 ⟨List.mem_range.2 hj, by simp [Lib.keeps]⟩, rfl⟩
    | succ j ih =>
      intro hj
      by_cases he : zs.toArray[j + 1]! = zs.toArray[j + 1 - 1]!
      · rw [he]
        exact ih (by omega)
      · exact List.mem_map.2 ⟨j + 1, List.mem_filter.2 ⟨List.mem_range.2 hj, by unfold Lib.keeps; exact decide_eq_true (Or.inr he)⟩, rfl⟩
  have := key j hj
  rwa [show zs.toArray[j]! = zs[j] by simp [hj]] at this
theorem compact_len (zs : List Int) : (Lib.compact zs).length ≤ zs.length := by
  unfold Lib.compact Lib.compactUpTo
  rw [List.length_map]
  have := List.length_filter_le (Lib.keeps zs.toArray) (List.range zs.length)
  simpa using this

/-- What SlotsOf ends with. -/
def SlEnd (l : List Nd) (w : World) (e : Ending) (w' : World) : Prop :=
  ∃ (v : Value) (ns : List Int), e = .returned v ∧ w'.ownsRow w.heap.size 3 1 v ns.length (ivs ns) ∧ ns.length ≤ 60 ∧ (∀ x ∈ l, x.kind = 2 → x.slot ∈ ns) ∧ Below w.heap.size w w'
/-- The loop's relation. -/
def SoRel (l : List Nd) (w : World) (out i : Value) (wr : World) : Prop :=
  ∃ k : Nat, i = .int .i64 k ∧ k ≤ l.length ∧ wr.ownsRow w.heap.size 3 1 out (sls (l.take k)).length (ivs (sls (l.take k))) ∧ Below w.heap.size w wr
theorem so_skip {l : List Nd} {w W : World} {out : Value} {k : Nat} (hk : k < l.length) (h2 : ¬ l[k].kind = 2) (hown : W.ownsRow w.heap.size 3 1 out (sls (l.take k)).length (ivs (sls (l.take k)))) (hb : Below w.heap.size w W) :
    SoRel l w out (.int .i64 ((k : Int) + 1)) W ∧ l.length - (RowKit.intOf (.int .i64 ((k : Int) + 1))).toNat < l.length - (RowKit.intOf (.int .i64 (k : Int))).toNat := by
  refine ⟨⟨k + 1, by simp, hk, ?_, hb⟩, by simp [RowKit.intOf]; omega⟩
  rw [sls_step hk, if_neg h2, List.append_nil]
  exact hown
theorem so_next {l : List Nd} {w W W' : World} {out v' : Value} {k n : Nat} {xs : List Value} {o : Obj} (hk : k < l.length) (h2 : l[k].kind = 2) (hown : W.ownsRow w.heap.size 3 1 out (sls (l.take k)).length (ivs (sls (l.take k)))) (hb : Below w.heap.size w W)
    (hn : n = (sls (l.take k)).length + 1) (hx : xs = ivs (sls (l.take k)) ++ [.int .i64 l[k].slot]) (hown' : W'.ownsRow w.heap.size 3 1 v' n xs) (hgrow : (W.alloc o).grownBy W' out.ownBlock) :
    SoRel l w v' (.int .i64 ((k : Int) + 1)) W' ∧ l.length - (RowKit.intOf (.int .i64 ((k : Int) + 1))).toNat < l.length - (RowKit.intOf (.int .i64 (k : Int))).toNat := by
  subst hn hx
  refine ⟨⟨k + 1, by simp, hk, ?_, (hb.alloc hb.size o).grown hgrow (Nat.le_trans hb.size (by rw [World.size_alloc]; omega)) (fun j hj => by have := (hown.lt j hj).1; omega)⟩, by simp [RowKit.intOf]; omega⟩
  rw [sls_step hk, if_pos h2]
  simpa [ivs] using hown'
theorem sl_end {l : List Nd} {w w1 w2 : World} {g cap q : Nat} {ss : List Int} (hss : ∀ m ∈ sls l, m ∈ ss) (hlen : ss.length ≤ 60) (hown : w1.ownsRow w.heap.size 3 1 (.slice (some ⟨g, 0, none⟩) ss.length cap) ss.length (ivs ss)) (hb : Below w.heap.size w w1)
    (hw : w2 = Sort.putRow (Value.int .i64) (Sort.ahead w1 q) g 0 (Lib.compact ss ++ List.replicate (ss.length - (Lib.compact ss).length) 0).toArray) : SlEnd l w (.returned (.slice (some ⟨g, 0, none⟩) (Lib.compact ss).length cap)) w2 := by
  subst hw
  have hc := compact_len ss
  refine ⟨_, Lib.compact ss, rfl, ?_, by omega, fun x hx hk => mem_compact (hss _ (mem_sls hx hk)), Lib.below_putRow hb (hown.lt g rfl).1⟩
  have := Lib.ownsRow_putRow (enc := Value.int .i64) (q := q) (k := (Lib.compact ss).length) (ys := Lib.compact ss ++ List.replicate (ss.length - (Lib.compact ss).length) 0) hown (by simp; omega) hc
  rwa [List.take_left' rfl] at this
theorem sl_none {l : List Nd} {w w1 : World} {v : Value} (hs : sls l = []) (hown : w1.ownsRow w.heap.size 3 1 v 0 []) (hb : Below w.heap.size w w1) : SlEnd l w (.returned v) w1 :=
  ⟨v, [], rfl, hown, Nat.zero_le _, (fun x hx hk => by have h9 := mem_sls hx hk; rw [hs] at h9; cases h9), hb⟩
/-- Behind the sort. -/
theorem sort_own {w w1 w2 : World} {g n cap q : Nat} {os : Array Obj} {zs : List Int} (hn : n = zs.length) (hown : w1.ownsRow w.heap.size 3 1 (.slice (some ⟨g, 0, none⟩) n cap) n (ivs zs)) (hb : Below w.heap.size w w1)
    (hw : w2 = Sort.grow (Sort.putRow (Value.int .i64) (Sort.ahead w1 q) g 0 (zs.mergeSort fun x y => decide (x ≤ y)).toArray) os) :
    w2.ownsRow w.heap.size 3 1 (.slice (some ⟨g, 0, none⟩) (zs.mergeSort fun x y => decide (x ≤ y)).length cap) (zs.mergeSort fun x y => decide (x ≤ y)).length (ivs (zs.mergeSort fun x y => decide (x ≤ y))) ∧ Below w.heap.size w w2 := by
  subst hw hn
  have hl : (zs.mergeSort fun x y => decide (x ≤ y)).length = zs.length := List.length_mergeSort _
  refine ⟨?_, hb.grown (grownBy_sortedI _) hb.size (fun j hj => by have := Option.some.inj hj; have := (hown.lt g rfl).1; omega)⟩
  rcases hown.2 with ⟨h1, _⟩ | ⟨g', cap', cur, h1, h2, h3, h4, h5, h6, h7⟩
  · simp at h1
  · have hg : g = g' := by simpa using (Value.slice.inj h1).1
    have hc : cap = cap' := by simpa using (Value.slice.inj h1).2.2
    subst hg hc
    have := ownsRow_sortedI (os := os) (n := q) (ss := zs) (ts := zs.mergeSort fun x y => decide (x ≤ y)) hl h2 h3 h4 h5 h6
    rwa [← hl] at this

theorem slotsOf_any (l : List Nd) (v : Value) (w : World) (hv : NView w v l) (hl : 1 ≤ l.length ∧ l.length ≤ 60) (hg : ∀ x ∈ l, GoodN x) (hex : IsEx l) :
    Calls Try.prog 14 #[v] w (SlEnd l w) := by
  have hv2 := hv
  obtain ⟨g, cap, rfl, hgw, hcells⟩ := hv
  have HC := Lib.hid hcells
  clear hcells
  obtain ⟨i0, hi, hz0, hz1, hz2⟩ := info_parts A_infoI
  go_enter Try.func14, Try.ntmps14
  go_wp2_with fail
  go_at_call 11
  refine (exprOkI_any l _ _ hv2 hl hg hex).mono ?_
  rintro e w1 ⟨rfl, hb1⟩
  have HB1 := Lib.hid hb1
  clear hb1 hv2
  go_wp2
  go_loopw [3, 11] (fun out i wr => SoRel l w out i wr) (fun _ i _ => l.length - (RowKit.intOf i).toNat)
  case atStart => exact ⟨0, rfl, Nat.zero_le _, World.ownsRow_nil _ _ _ _, HB1.out⟩
  case round =>
    obtain ⟨k, rfl, hk, hown, hb⟩ := hrel
    have HOWN := Lib.hid hown
    have HB := Lib.hid hb
    clear hown
    by_cases hkl : k < l.length
    · have ck : decide ((k : Int) < (l.length : Int)) = true := decide_eq_true (by omega)
      have hcw : NCells wr g l := HC.out.below HB.out hgw
      obtain ⟨x0, x1, x2⟩ := hcw k hkl
      clear hcw
      have hsz := HB.out.size
      have hsl := sls_len (l.take k)
      have htk : (l.take k).length ≤ k := List.length_take_le _ _
      by_cases h2 : l[k].kind = 2
      · rw [h2] at x0
        have H2 := Lib.hid h2
        clear h2
        have HB4 := Lib.hid (bl_alloc HB.out (.cells #[.int .i64 2, .int .i64 l[k].slot, .complex .f64 l[k].re l[k].im] 36))
        have HO4 := Lib.hid (HOWN.out.alloc (.cells #[.int .i64 2, .int .i64 l[k].slot, .complex .f64 l[k].re l[k].im] 36))
        go_wp2_with (first | (at_builtin; refine wpList_append_own _ rfl _ _ 38 rfl w.heap.size 3 i0 (.int .i64 0) 1 8 Try.underlying38 hi hz0 hz1 hz2 rfl (by decide) _ _ _ rfl (HO4.out.alloc _) ⟨wr.heap.size + 1, 0, none⟩ 1 1 [.int .i64 l[k].slot] rfl rfl ?c1 ?c2 ?c3 ?c4 ?c5 ?_))
        case c1 =>
          intro j u hj
          match j, hj with
          | 0, hj => simp at hj; subst hj; simp [Addr.add]
        case c2 => intro u hu; simp at hu; subst hu; rfl
        case c3 => unfold maxLen; omega
        case c4 => omega
        case c5 => simp; omega
        · intro v' w4 hown' hgrow _
          have HN := Lib.hid (so_next hkl H2.out HO4.out HB4.out rfl rfl hown' hgrow)
          clear hown' hgrow
          go_wp2
          case roundEnd => exact HN.out
      · have h2' : (l[k].kind == 2) = false := beq_eq_false_iff_ne.2 h2
        have HN := Lib.hid (so_skip hkl h2 (HOWN.out.alloc (.cells #[.int .i64 l[k].kind, .int .i64 l[k].slot, .complex .f64 l[k].re l[k].im] 36)) (bl_alloc HB.out _))
        go_wp2
        case roundEnd => exact HN.out
    · have ck : decide ((k : Int) < (l.length : Int)) = false := decide_eq_false (by omega)
      obtain rfl : k = l.length := by omega
      have hown := HOWN.out
      rw [List.take_length] at hown
      have hsl := sls_len l
      by_cases hs : sls l = []
      · rw [hs] at hown
        have HE := Lib.hid (sl_none hs hown HB.out)
        rcases Joins.ownsRow_forms hown with ⟨hnil, _⟩ | ⟨gs, cs, hvs⟩
        · subst hnil
          go_wp2_with (first | (go_at_call 31; (with_reducible refine (Try.slices_Sort_int_none _ _ _).mono ?_); rintro e w2 ⟨rfl, hw⟩; have hw := hw.symm; subst hw) | (go_at_call 32; (with_reducible refine (Try.slices_Compact_int_empty _ _ _).mono ?_); rintro e w2 ⟨rfl, hw⟩; have hw := hw.symm; subst hw))
          go_ret
          exact HE.out
        · obtain rfl := hvs
          go_wp2_with (first | (go_at_call 31; (with_reducible refine (Try.slices_Sort_int_none _ _ _).mono ?_); rintro e w2 ⟨rfl, hw⟩; have hw := hw.symm; subst hw) | (go_at_call 32; (with_reducible refine (Try.slices_Compact_int_empty _ _ _).mono ?_); rintro e w2 ⟨rfl, hw⟩; have hw := hw.symm; subst hw))
          go_ret
          exact HE.out
      · have hpos : 0 < (sls l).length := List.length_pos_iff.2 hs
        obtain ⟨gs, cs, rfl⟩ := Joins.ownsRow_form hown hpos
        obtain ⟨g', c', he, hb', hlt', hle', hmx, hll, hH⟩ := Lib.holds_of_ownsRow (enc := Value.int .i64) hown (by simp)
        obtain ⟨rfl, rfl⟩ : gs = g' ∧ cs = c' := by
          have := Value.slice.inj he
          exact ⟨by simpa using this.1, by simpa using this.2.2⟩
        have HH := Lib.hid hH
        have HOW := Lib.hid hown
        clear hH hown he
        go_wp2_with fail
        go_at_call 31
        refine (Try.slices_Sort_int gs 0 cs (sls l) _ HH.out hlt' (by omega)).mono ?_
        rintro e w2 ⟨rfl, q, os, hw2⟩
        obtain ⟨hown2, hb2⟩ := sort_own rfl HOW.out HB.out hw2
        have hlen2 : ((sls l).mergeSort fun x y => decide (x ≤ y)).length = (sls l).length := List.length_mergeSort _
        have hmem : ∀ m ∈ sls l, m ∈ ((sls l).mergeSort fun x y => decide (x ≤ y)) := fun m hm => List.mem_mergeSort.2 hm
        have hform : Value.slice (some ⟨gs, 0, none⟩) (sls l).length cs = .slice (some ⟨gs, 0, none⟩) ((sls l).mergeSort fun x y => decide (x ≤ y)).length cs := by rw [hlen2]
        rw [hform]
        have hl60 : ((sls l).mergeSort fun x y => decide (x ≤ y)).length ≤ 60 := by omega
        have hcs : ((sls l).mergeSort fun x y => decide (x ≤ y)).length ≤ cs := by omega
        clear hform hlen2 hw2
        generalize ((sls l).mergeSort fun x y => decide (x ≤ y)) = ss at hown2 hmem hl60 hcs ⊢
        obtain ⟨g3, c3, he3, _, _, _, _, _, hH3⟩ := Lib.holds_of_ownsRow (enc := Value.int .i64) hown2 (by simp)
        obtain ⟨rfl, rfl⟩ : gs = g3 ∧ cs = c3 := by
          have := Value.slice.inj he3
          exact ⟨by simpa using this.1, by simpa using this.2.2⟩
        have HH3 := Lib.hid hH3
        have HO2 := Lib.hid hown2
        have HB2 := Lib.hid hb2
        clear hH3 hown2 hb2 he3
        go_wp2_with fail
        go_at_call 32
        refine (Try.slices_Compact_int gs 0 cs ss _ HH3.out (by omega) hcs).mono ?_
        rintro e w3 ⟨rfl, q3, hw3⟩
        have HE := Lib.hid (sl_end hmem hl60 HO2.out HB2.out hw3)
        clear hw3
        go_wp2
        go_ret
        exact HE.out

theorem fold_max (a b : Int) : ∀ (zs : List Int) (m : Int), a ≤ m → m ≤ b → (∀ z ∈ zs, a ≤ z ∧ z ≤ b) → a ≤ zs.foldl max m ∧ zs.foldl max m ≤ b
  | [], m, h1, h2, _ => ⟨h1, h2⟩
  | z :: zs, m, h1, h2, h => by
    have hz := h z (List.mem_cons_self)
    exact fold_max a b zs (max m z) (by omega) (by omega) (fun y hy => h y (List.mem_cons_of_mem _ hy))
theorem maxOf_in {a b : Int} {zs : List Int} (hne : zs ≠ []) (h : ∀ z ∈ zs, a ≤ z ∧ z ≤ b) : a ≤ Lib.maxOf zs ∧ Lib.maxOf zs ≤ b := by
  cases zs with
  | nil => exact absurd rfl hne
  | cons z zs =>
    have hz := h z (List.mem_cons_self)
    exact fold_max a b _ z hz.1 hz.2 h
theorem depthOf_any (l : List Nd) (v : Value) (w : World) (hv : NView w v l) (hl : 1 ≤ l.length ∧ l.length ≤ 60) (hg : ∀ x ∈ l, GoodN x) (hex : IsEx l) :
    Calls Try.prog 16 #[v] w fun e w' => ∃ d : Int, e = .returned (.int .i64 d) ∧ 1 ≤ d ∧ d ≤ l.length ∧ Below w.heap.size w w' := by
  go_enter Try.func16, Try.ntmps16
  go_wp2_with fail
  go_at_call 24
  refine (heights_any l v _ hv hl hg hex).mono ?_
  rintro e w1 ⟨u, hs, rfl, hown, hlen, hall, hb1⟩
  obtain ⟨gs, cs, rfl⟩ := Joins.ownsRow_form hown (by omega)
  have hcell : ∀ j, j < (hs.map fun h : Nat => (h : Int)).length → w1.cell? ⟨gs, 0 + j, none⟩ = some (.int .i64 ((hs.map fun h : Nat => (h : Int)).getD j 0)) := fun j hj => by
    have hj' : j < hs.length := by simpa using hj
    rw [Nat.zero_add, hown.cellAt j (by omega)]
    simp [ints, hj']
  have HE : Hid (1 ≤ Lib.maxOf ((hs.map fun h : Nat => (h : Int)).take l.length) ∧ Lib.maxOf ((hs.map fun h : Nat => (h : Int)).take l.length) ≤ l.length) := Lib.hid (by
    rw [List.take_of_length_le (by simp; omega)]
    refine maxOf_in (fun h => ?_) fun z hz => ?_
    · have := congrArg List.length h
      simp at this
      rw [this] at hlen
      simp at hlen
      omega
    · obtain ⟨y, hy, rfl⟩ := List.mem_map.1 hz
      have := hall y hy
      omega)
  have HC := Lib.hid hcell
  have HL : Hid (l.length ≤ (hs.map fun h : Nat => (h : Int)).length) := Lib.hid (by simp; omega)
  have hl2 := hl
  clear hown hall hcell hlen
  go_wp2_with (go_at_call 33; (with_reducible refine (Try.slices_Max_int gs 0 l.length cs (hs.map fun h : Nat => (h : Int)) _ (by omega) HL.out (by omega) HC.out).mono ?_); rintro e w2 ⟨rfl, hw⟩; have hw := hw.symm; subst hw)
  go_ret
  exact ⟨_, rfl, HE.out.1, HE.out.2, hb1⟩

/-- Whether a row of numbers has a number. -/
theorem hasIntZ_any (v : Value) (zs : List Int) (i : Int) (base : Nat) (w : World) (hp : zs.length ≤ 1000) (hown : w.ownsRow base 3 1 v zs.length (ivs zs)) :
    Calls Try.prog 15 #[v, .int .i64 i] w fun e w' => e = .returned (.bool (decide (i ∈ zs))) ∧ w' = w := by
  rcases hown.2 with ⟨h1, h2⟩ | ⟨g, cap, cur, h1, h2, h3, h4⟩
  · subst h1
    have hps : zs = [] := List.eq_nil_of_length_eq_zero h2
    subst hps
    go_enter Try.func15, Try.ntmps15
    go_wp2
    go_loopw [5] (fun j wr => j = .int .i64 0 ∧ wr = w) (fun _ _ => 0)
    case atStart => exact ⟨rfl, rfl⟩
    case round =>
      obtain ⟨rfl, rfl⟩ := hrel
      go_wp2
      go_ret
      exact ⟨by first | rfl | (simp; done), rfl⟩
  · subst h1
    have hcell : ∀ j (h : j < zs.length), w.cell? ⟨g, j, none⟩ = some (.int .i64 zs[j]) := fun j h => by
      rw [hown.cellAt j (by omega)]
      simp [ivs, h]
    have HC := Lib.hid hcell
    clear hcell hown h3 h4 h2
    go_enter Try.func15, Try.ntmps15
    go_wp2
    go_loopw [5] (fun j wr => ∃ k : Nat, j = .int .i64 k ∧ k ≤ zs.length ∧ (∀ a ∈ zs.take k, a ≠ i) ∧ wr = w) (fun j _ => zs.length - (RowKit.intOf j).toNat)
    case atStart => exact ⟨0, rfl, Nat.zero_le _, by simp, rfl⟩
    case round =>
      obtain ⟨k, rfl, hk, hno, rfl⟩ := hrel
      have HN := Lib.hid hno
      clear hno
      by_cases hlt : k < zs.length
      · have ck : decide ((k : Int) < (zs.length : Int)) = true := decide_eq_true (by omega)
        have y0 := HC.out k hlt
        by_cases hi : zs[k] = i
        · have c1 : (zs[k] == i) = true := beq_iff_eq.2 hi
          have HE : Hid (decide (i ∈ zs) = true) := Lib.hid (decide_eq_true (by rw [← hi]; exact List.getElem_mem hlt))
          clear hi
          go_wp2
          go_ret
          exact ⟨by rw [HE.out]; rfl, rfl⟩
        · have c1 : (zs[k] == i) = false := beq_eq_false_iff_ne.2 hi
          have HN2 : Hid (∀ a ∈ zs.take (k + 1), a ≠ i) := Lib.hid (fun a ha => by
            rw [List.take_succ_eq_append_getElem hlt] at ha
            rcases List.mem_append.1 ha with h | h
            · exact HN.out a h
            · simp at h; subst h; exact hi)
          clear hi
          go_wp2
          case roundEnd =>
            exact ⟨⟨k + 1, by simp, hlt, HN2.out, by first | rfl | trivial⟩, by simp [RowKit.intOf]; omega⟩
      · have ck : decide ((k : Int) < (zs.length : Int)) = false := decide_eq_false (by omega)
        have HE : Hid (decide (i ∈ zs) = false) := Lib.hid (decide_eq_false (fun h => by
          have := HN.out i (by rw [List.take_of_length_le (by omega)]; exact h)
          exact this rfl))
        go_wp2
        go_ret
        exact ⟨by rw [HE.out]; rfl, rfl⟩
end Go.Proofs.Ytjacimccpadgeaa
