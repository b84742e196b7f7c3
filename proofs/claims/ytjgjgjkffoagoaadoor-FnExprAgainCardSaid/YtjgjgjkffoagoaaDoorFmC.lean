/- The program's FormatExpr at a drawn expression: the text of its tree, or none where it is longer than 600. Condition: the table of powers of ten is laid. (printed by genfmc.py) -/
import Derived.Test.YtjgjgjkffoagoaaDoorFmB
import Derived.Test.YtjgjgjkffoagoaaDoorExI
import Derived.Deep.RegionHeld3
import Derived.Test.YtjgjgjkffoagoaaDoorHeld
namespace Go.Proofs.YtjgjgjkffoagoaaDoor
open Go.RowKit
open Go.Lib (itoa decDigits nDigits nDigits_le20 itoa_length_le)
attribute [local go_sem] run_store_float run_store_complex
set_option maxRecDepth 100000
set_option maxHeartbeats 100000000
set_option linter.unusedVariables false
set_option linter.unusedSimpArgs false

theorem own_take2 {w : World} {base g n k cap : Nat} {e : TypeId} {xs : List Value} (h : w.ownsRow base e 2 (.slice (some ⟨g, 0, none⟩) n cap) n xs) (hk : k ≤ n) : w.ownsRow base e 2 (.slice (some ⟨g, 0, none⟩) k cap) k (xs.take (k * 2)) := by
  have h0 := h.1
  refine ⟨by rw [List.length_take, h0]; omega, ?_⟩
  rcases h.2 with ⟨h1, _⟩ | ⟨g', cap', cur, h1, h2, h3, h4, h5, h6, h7⟩
  · simp at h1
  · have hg : g = g' := by simpa using (Value.slice.inj h1).1
    have hc : cap = cap' := by simpa using (Value.slice.inj h1).2.2
    subst hg hc
    refine .inr ⟨g, cap, cur, rfl, h2, h3, by omega, h5, h6, ?_⟩
    rw [← h7, List.take_take]
    congr 1
    omega
theorem own_cap2 {w : World} {base g n cap : Nat} {e : TypeId} {xs : List Value} (h : w.ownsRow base e 2 (.slice (some ⟨g, 0, none⟩) n cap) n xs) : n ≤ cap := by
  rcases h.2 with ⟨h1, _⟩ | ⟨g', cap', cur, h1, h2, h3, h4, h5, h6, h7⟩
  · simp at h1
  · have hc : cap = cap' := by simpa using (Value.slice.inj h1).2.2
    subst hc
    exact h4
theorem wt_take (s0 ops : List Ex) : ((s0 ++ ops).flatMap wtCells).take (s0.length * 2) = s0.flatMap wtCells := by
  rw [List.flatMap_append, ← wt_len s0, List.take_left]
theorem wt_get (s0 ops : List Ex) (j : Nat) : ((s0 ++ ops).flatMap wtCells)[s0.length * 2 + j]? = (ops.flatMap wtCells)[j]? := by
  rw [List.flatMap_append, List.getElem?_append_right (by rw [wt_len]; omega), wt_len]
  congr 1
  omega
theorem wt_cell {w : World} {base g n cap : Nat} {e : TypeId} {s0 ops : List Ex} (h : w.ownsRow base e 2 (.slice (some ⟨g, 0, none⟩) n cap) n ((s0 ++ ops).flatMap wtCells)) (j : Nat) (u : Value) (hu : (ops.flatMap wtCells)[j]? = some u) : w.cell? ⟨g, s0.length * 2 + j, none⟩ = some u := by
  have := h.cells rfl (s0.length * 2 + j) u (by rw [wt_get]; exact hu)
  have hadd : (⟨g, 0, none⟩ : Addr).add (s0.length * 2 + j) = ⟨g, s0.length * 2 + j, none⟩ := by unfold Addr.add; split <;> simp_all
  rw [hadd] at this
  exact this
theorem nd_slot : ∀ {x : Nd}, x.kind = 2 → x.re = 0 → x.im = 0 → x = ⟨2, x.slot, 0, 0⟩ := by
  rintro ⟨a, b, c, d⟩ h1 h2 h3
  simp only at h1 h2 h3
  subst h1 h2 h3
  rfl
theorem nd_op : ∀ {x : Nd}, x.slot = 0 → x.re = 0 → x.im = 0 → x = nd x.kind := by
  rintro ⟨a, b, c, d⟩ h1 h2 h3
  simp only at h1 h2 h3
  subst h1 h2 h3
  rfl
theorem wt_news (w : World) (t : Ex) : ∀ (j : Nat) (u : Value), (wtCells t)[j]? = some u → (w.alloc (.cells #[tx t.txt, .int .i64 (t.str : Int)] 49)).cell? ((⟨w.heap.size, 0, none⟩ : Addr).add j) = some u := by
  intro i u hj
  match i, hj with
  | 0, hj => simp at hj; subst hj; simp [Addr.add]
  | 1, hj => simp at hj; subst hj; simp [Addr.add]
theorem wt_news2 (w : World) (x y : Value) (t : TypeId) {g : Nat} (hg : g = w.heap.size) : ∀ (j : Nat) (u : Value), [x, y][j]? = some u → (w.alloc (.cells #[x, y] t)).cell? ((⟨g, 0, none⟩ : Addr).add j) = some u := by
  subst hg
  intro i u hj
  match i, hj with
  | 0, hj => simp at hj; subst hj; simp [Addr.add]
  | 1, hj => simp at hj; subst hj; simp [Addr.add]
theorem wt_one2 (x y : Value) (hx : x.oneCell' = true) (hy : y.oneCell' = true) : ∀ u ∈ [x, y], u.oneCell' = true := by
  intro u hu
  simp only [List.mem_cons, List.not_mem_nil, or_false] at hu
  rcases hu with rfl | rfl
  · exact hx
  · exact hy
theorem lit_on {W W' : World} {g j : Nat} {v : Value} (h : W.cell? ⟨g, j, none⟩ = some v) (hb : Below W.heap.size W W') : W'.cell? ⟨g, j, none⟩ = some v := (hb.cell (p := ⟨g, j, none⟩) (World.block_lt_of_cell? W _ h)).trans h
theorem flat_le {a : Ex} : ∀ {ts : List Ex}, a ∈ ts → a.flat.length ≤ (ts.flatMap Ex.flat).length
  | t :: ts, h => by
    rw [List.flatMap_cons, List.length_append]
    rcases List.mem_cons.1 h with rfl | h
    · omega
    · have := flat_le h; omega
theorem formatI_any (l : List Nd) (v : Value) (w : World) (hv : NView w v l) (hl : 1 ≤ l.length ∧ l.length ≤ 60) (hg : ∀ x ∈ l, GoodN x) (hex : IsEx l) (htab : Lib.TabIs Tryd.prog w "internal/strconv.uint64pow10" .u64 Lib.pow10Tab) :
    Calls Tryd.prog 7 #[v] w (FmEnd l w) := by
  have hv2 := hv
  obtain ⟨g, cap, rfl, hgw, hcells⟩ := hv
  have HC := Lib.hid hcells
  have HTAB := Lib.hid htab
  clear hcells htab
  obtain ⟨i0, hi, hz0, hz1, hz2⟩ := info_parts A_infoW
  go_enter Tryd.func7, Tryd.ntmps7
  go_wp2_with fail
  go_at_call 8
  refine (exprOkI_any l _ _ hv2 hl hg hex).mono ?_
  rintro e w1 ⟨rfl, hb1⟩
  have HB1 := Lib.hid hb1
  clear hb1 hv2
  go_wp2
  go_loopw [4, 15] (fun out i wr => FmRel l w out i wr) (fun _ i _ => l.length - (RowKit.intOf i).toNat)
  case atStart => exact ⟨0, [], rfl, Nat.zero_le _, World.ownsRow_nil _ _ _ _, by simp, by simp, rfl, HB1.out⟩
  case round =>
    obtain ⟨k, ts, rfl, hk, hown, hfl, hok, hrn, hb⟩ := hrel
    have HB := Lib.hid hb
    have hsz := hb.size
    by_cases hkl : k < l.length
    · have ck : decide ((k : Int) < (l.length : Int)) = true := decide_eq_true (by omega)
      obtain ⟨s1, s2, s3, s4, s5⟩ := hrun_step hex hkl hrn
      have hcw : NCells wr g l := HC.out.below HB.out hgw
      obtain ⟨x0, x1, x2⟩ := hcw k hkl
      have HT := Lib.hid (tab_on HTAB.out HB.out)
      have hgx := hg _ (List.getElem_mem hkl)
      clear hcw
      obtain ⟨s0, ops, rfl, hops⟩ : ∃ s0 ops, ts = s0 ++ ops ∧ ops.length = ar l[k].kind := ⟨ts.take (ts.length - ar l[k].kind), ts.drop (ts.length - ar l[k].kind), (List.take_append_drop _ _).symm, by rw [List.length_drop]; omega⟩
      have hsl : (s0 ++ ops).length = s0.length + ops.length := List.length_append
      have HNX := Lib.hid (fun (t : Ex) (ht : TOk t) (htf : t.flat = ops.flatMap Ex.flat ++ [l[k]]) (W W' : World) (n g' cap : Nat) (out : Value) (xs : List Value) (o : Obj) (hb : Below w.heap.size w W) (hn : n = s0.length + 1) (hx : xs = s0.flatMap wtCells ++ wtCells t) (hown' : W'.ownsRow w.heap.size 49 2 (.slice (some ⟨g', 0, none⟩) n cap) n xs) (hgrow : (W.alloc o).grownBy W' out.ownBlock) (hrow : ∀ j, out.ownBlock = some j → w.heap.size ≤ j) => fm_next hex hkl hfl hrn hops hok ht htf hb hn hx hown' hgrow hrow)
      have HOK := Lib.hid hok
      have HFL := Lib.hid hfl
      clear hok hfl hrn
      have hkk : l[k].kind = 1 ∨ l[k].kind = 2 ∨ l[k].kind = 3 ∨ l[k].kind = 4 ∨ l[k].kind = 5 ∨ l[k].kind = 6 ∨ l[k].kind = 7 ∨ l[k].kind = 8 ∨ l[k].kind = 9 ∨ l[k].kind = 10 ∨ l[k].kind = 11 ∨ l[k].kind = 12 := by
        rcases hgx with ⟨h, _⟩ | ⟨h, _⟩ | ⟨⟨h1, h2⟩, _⟩ <;> omega
      rcases hkk with hkk | hkk | hkk | hkk | hkk | hkk | hkk | hkk | hkk | hkk | hkk | hkk
      · have hops0 : ops = [] := List.length_eq_zero_iff.1 (by rw [hops, hkk]; rfl)
        subst hops0
        rw [hkk] at x0
        simp only [List.append_nil] at hown HOK
        simp only [List.flatMap_nil, List.nil_append] at HNX
        have HKK := Lib.hid hkk
        have HAR := Lib.hid (show ar 1 = 0 from rfl)
        have HB2 := Lib.hid (bl_alloc HB.out (.cells #[.int .i64 1, .int .i64 l[k].slot, .complex .f64 l[k].re l[k].im] 43))
        obtain ⟨hs0, hgv⟩ : l[k].slot = 0 ∧ GoodV l[k].re l[k].im := by rcases hgx with ⟨_, a, b⟩ | ⟨h, _⟩ | ⟨⟨h, _⟩, _⟩ <;> first | exact ⟨a, b⟩ | omega
        have HX := Lib.hid (show l[k] = ⟨1, 0, l[k].re, l[k].im⟩ by rw [← hs0, ← HKK.out])
        have HGV := Lib.hid hgv
        clear hgv hs0
        clear hkk hgx hops
        rcases Joins.ownsRow_forms hown with ⟨hnil, hn0⟩ | ⟨gs, cs, hvs⟩
        · subst hnil
          obtain rfl : s0 = [] := List.length_eq_zero_iff.1 hn0
          have HO : Hid (wr.ownsRow w.heap.size 49 2 (.slice none 0 0) 0 []) := Lib.hid (World.ownsRow_nil _ _ _ _)
          have HROW : Hid (∀ j, (Value.slice none 0 0).ownBlock = some j → w.heap.size ≤ j) := Lib.hid (fun j hj => by cases hj)
          clear hown
          go_wp2_with (first | (go_at_call 18; (with_reducible refine (strength_is 1 (by omega) _).mono ?_); rintro e w9 ⟨rfl, hw9⟩; have hw9x := hw9.symm; clear hw9; subst hw9x) | (go_at_call 19; (with_reducible refine (operands_is 1 0 _ HAR.out).mono ?_); rintro e w9 ⟨rfl, hw9⟩; have hw9x := hw9.symm; clear hw9; subst hw9x))
          go_at_call 20
          refine (numberText_any l[k].re l[k].im HGV.out _ (tab_on HT.out (bl_alloc (Below.refl _ _) _))).mono ?_
          rintro e w5 ⟨t9, rfl, hleaf, htl, hb5⟩
          have HTO := Lib.hid (TOk.leaf hleaf htl)
          have HBW := Lib.hid (bl_call HB2.out hb5)
          have hs5 := HBW.out.size
          have HOW := Lib.hid (own_below HO.out (bl_call (bl_alloc (Below.refl _ wr) (.cells #[.int .i64 1, .int .i64 l[k].slot, .complex .f64 l[k].re l[k].im] 43)) hb5))
          clear hleaf hb5
          go_wp2_with (first | (at_builtin; refine wpList_append_lies _ rfl (.tmp 98) (.tmp 102) 40 rfl w.heap.size 49 i0 (.agg #[.string ⟨#[]⟩, .int .i64 0]) 2 24 Tryd.underlying40 hi hz0 hz1 hz2 rfl (by decide) _ _ _ rfl (HOW.out.alloc _) ⟨w5.heap.size, 0, none⟩ 1 1 (wtCells (.leaf ⟨1, 0, l[k].re, l[k].im⟩ t9)) rfl rfl ?c1 ?c2 (by decide) ?c3 ?c4 ?c5 _ rfl ?_))
          case c1 => exact wt_news w5 (.leaf ⟨1, 0, l[k].re, l[k].im⟩ t9)
          case c2 => exact wt_one _
          case c3 => unfold maxLen; omega
          case c4 => omega
          case c5 => rw [World.size_alloc]; omega
          · intro g' cap' w9 hown' hgrow _ _
            have HN := Lib.hid (HNX.out (.leaf ⟨1, 0, l[k].re, l[k].im⟩ t9) HTO.out (by show [_] = _; rw [← HX.out]) _ _ _ _ _ _ _ _ HBW.out rfl rfl hown' hgrow HROW.out)
            clear hown' hgrow
            go_wp2
            case roundEnd => exact HN.out
        · subst hvs
          have HO := Lib.hid hown
          have HROW := Lib.hid (fun j (hj : (Value.slice (some ⟨gs, 0, none⟩) s0.length cs).ownBlock = some j) => (hown.lt j hj).1)
          have hcs : s0.length ≤ cs := own_cap2 hown
          clear hown
          by_cases hcl : cs = s0.length
          · subst hcl
            go_wp2_with (first | (go_at_call 18; (with_reducible refine (strength_is 1 (by omega) _).mono ?_); rintro e w9 ⟨rfl, hw9⟩; have hw9x := hw9.symm; clear hw9; subst hw9x) | (go_at_call 19; (with_reducible refine (operands_is 1 0 _ HAR.out).mono ?_); rintro e w9 ⟨rfl, hw9⟩; have hw9x := hw9.symm; clear hw9; subst hw9x))
            go_at_call 20
            refine (numberText_any l[k].re l[k].im HGV.out _ (tab_on HT.out (bl_alloc (Below.refl _ _) _))).mono ?_
            rintro e w5 ⟨t9, rfl, hleaf, htl, hb5⟩
            have HTO := Lib.hid (TOk.leaf hleaf htl)
            have HBW := Lib.hid (bl_call HB2.out hb5)
            have hs5 := HBW.out.size
            have HOW := Lib.hid (own_below HO.out (bl_call (bl_alloc (Below.refl _ wr) (.cells #[.int .i64 1, .int .i64 l[k].slot, .complex .f64 l[k].re l[k].im] 43)) hb5))
            clear hleaf hb5
            go_wp2_with (first | (at_builtin; refine wpList_append_lies _ rfl (.tmp 98) (.tmp 102) 40 rfl w.heap.size 49 i0 (.agg #[.string ⟨#[]⟩, .int .i64 0]) 2 24 Tryd.underlying40 hi hz0 hz1 hz2 rfl (by decide) _ _ _ rfl (HOW.out.alloc _) ⟨w5.heap.size, 0, none⟩ 1 1 (wtCells (.leaf ⟨1, 0, l[k].re, l[k].im⟩ t9)) rfl rfl ?c1 ?c2 (by decide) ?c3 ?c4 ?c5 _ rfl ?_))
            case c1 => exact wt_news w5 (.leaf ⟨1, 0, l[k].re, l[k].im⟩ t9)
            case c2 => exact wt_one _
            case c3 => unfold maxLen; omega
            case c4 => omega
            case c5 => rw [World.size_alloc]; omega
            · intro g' cap' w9 hown' hgrow _ _
              have HN := Lib.hid (HNX.out (.leaf ⟨1, 0, l[k].re, l[k].im⟩ t9) HTO.out (by show [_] = _; rw [← HX.out]) _ _ _ _ _ _ _ _ HBW.out rfl rfl hown' hgrow HROW.out)
              clear hown' hgrow
              go_wp2
              case roundEnd => exact HN.out
          · have hcl2 : s0.length < cs := by omega
            go_wp2_with (first | (go_at_call 18; (with_reducible refine (strength_is 1 (by omega) _).mono ?_); rintro e w9 ⟨rfl, hw9⟩; have hw9x := hw9.symm; clear hw9; subst hw9x) | (go_at_call 19; (with_reducible refine (operands_is 1 0 _ HAR.out).mono ?_); rintro e w9 ⟨rfl, hw9⟩; have hw9x := hw9.symm; clear hw9; subst hw9x))
            go_at_call 20
            refine (numberText_any l[k].re l[k].im HGV.out _ (tab_on HT.out (bl_alloc (Below.refl _ _) _))).mono ?_
            rintro e w5 ⟨t9, rfl, hleaf, htl, hb5⟩
            have HTO := Lib.hid (TOk.leaf hleaf htl)
            have HBW := Lib.hid (bl_call HB2.out hb5)
            have hs5 := HBW.out.size
            have HOW := Lib.hid (own_below HO.out (bl_call (bl_alloc (Below.refl _ wr) (.cells #[.int .i64 1, .int .i64 l[k].slot, .complex .f64 l[k].re l[k].im] 43)) hb5))
            clear hleaf hb5
            go_wp2_with (first | (at_builtin; refine wpList_append_lies _ rfl (.tmp 98) (.tmp 102) 40 rfl w.heap.size 49 i0 (.agg #[.string ⟨#[]⟩, .int .i64 0]) 2 24 Tryd.underlying40 hi hz0 hz1 hz2 rfl (by decide) _ _ _ rfl (HOW.out.alloc _) ⟨w5.heap.size, 0, none⟩ 1 1 (wtCells (.leaf ⟨1, 0, l[k].re, l[k].im⟩ t9)) rfl rfl ?c1 ?c2 (by decide) ?c3 ?c4 ?c5 _ rfl ?_))
            case c1 => exact wt_news w5 (.leaf ⟨1, 0, l[k].re, l[k].im⟩ t9)
            case c2 => exact wt_one _
            case c3 => unfold maxLen; omega
            case c4 => omega
            case c5 => rw [World.size_alloc]; omega
            · intro g' cap' w9 hown' hgrow _ _
              have HN := Lib.hid (HNX.out (.leaf ⟨1, 0, l[k].re, l[k].im⟩ t9) HTO.out (by show [_] = _; rw [← HX.out]) _ _ _ _ _ _ _ _ HBW.out rfl rfl hown' hgrow HROW.out)
              clear hown' hgrow
              go_wp2
              case roundEnd => exact HN.out
      · have hops0 : ops = [] := List.length_eq_zero_iff.1 (by rw [hops, hkk]; rfl)
        subst hops0
        rw [hkk] at x0
        simp only [List.append_nil] at hown HOK
        simp only [List.flatMap_nil, List.nil_append] at HNX
        have HKK := Lib.hid hkk
        have HAR := Lib.hid (show ar 2 = 0 from rfl)
        have HB2 := Lib.hid (bl_alloc HB.out (.cells #[.int .i64 2, .int .i64 l[k].slot, .complex .f64 l[k].re l[k].im] 43))
        obtain ⟨hsr, hre, him⟩ : (0 ≤ l[k].slot ∧ l[k].slot ≤ 3) ∧ l[k].re = 0 ∧ l[k].im = 0 := by rcases hgx with ⟨h, _⟩ | ⟨_, a, b, c⟩ | ⟨⟨h, _⟩, _⟩ <;> first | exact ⟨a, b, c⟩ | omega
        have HX := Lib.hid (nd_slot HKK.out hre him)
        obtain ⟨sn, hsn, hsn2⟩ : ∃ sn : Nat, l[k].slot = sn ∧ sn ≤ 3 := ⟨l[k].slot.toNat, by omega, by omega⟩
        have HTO := Lib.hid (show TOk (.leaf ⟨2, l[k].slot, 0, 0⟩ (115 :: itoa l[k].slot)) from TOk.leaf (.inl ⟨sn, by omega, by rw [hsn], by rw [hsn, itoa_dig (by omega)]⟩) (by rw [hsn, itoa_dig (by omega)]; simp))
        have hil : (itoa l[k].slot).length ≤ 20 := by rw [hsn, itoa_dig (by omega)]; simp
        have g1 : (9223372036854775807 < 1 + (itoa l[k].slot).length) = False := eq_false (by omega)
        clear hsn hsn2 hre him
        clear hkk hgx hops
        rcases Joins.ownsRow_forms hown with ⟨hnil, hn0⟩ | ⟨gs, cs, hvs⟩
        · subst hnil
          obtain rfl : s0 = [] := List.length_eq_zero_iff.1 hn0
          have HO : Hid (wr.ownsRow w.heap.size 49 2 (.slice none 0 0) 0 []) := Lib.hid (World.ownsRow_nil _ _ _ _)
          have HROW : Hid (∀ j, (Value.slice none 0 0).ownBlock = some j → w.heap.size ≤ j) := Lib.hid (fun j hj => by cases hj)
          clear hown
          go_wp2_with (first | (go_at_call 18; (with_reducible refine (strength_is 2 (by omega) _).mono ?_); rintro e w9 ⟨rfl, hw9⟩; have hw9x := hw9.symm; clear hw9; subst hw9x) | (go_at_call 19; (with_reducible refine (operands_is 2 0 _ HAR.out).mono ?_); rintro e w9 ⟨rfl, hw9⟩; have hw9x := hw9.symm; clear hw9; subst hw9x))
          go_at_call 21
          refine (implFormatInt l[k].slot (by omega) (by omega) _ (tab_on HT.out (bl_alloc (Below.refl _ _) _))).mono ?_
          rintro e w5 ⟨rfl, hb5⟩
          have HBW := Lib.hid (bl_call HB2.out hb5)
          have hs5 := HBW.out.size
          have HOW := Lib.hid (own_below HO.out (bl_call (bl_alloc (Below.refl _ wr) (.cells #[.int .i64 2, .int .i64 l[k].slot, .complex .f64 l[k].re l[k].im] 43)) hb5))
          clear hb5
          go_wp2_with (first | (at_builtin; refine wpList_append_lies _ rfl (.tmp 98) (.tmp 102) 40 rfl w.heap.size 49 i0 (.agg #[.string ⟨#[]⟩, .int .i64 0]) 2 24 Tryd.underlying40 hi hz0 hz1 hz2 rfl (by decide) _ _ _ rfl (HOW.out.alloc _) ⟨w5.heap.size, 0, none⟩ 1 1 (wtCells (.leaf ⟨2, l[k].slot, 0, 0⟩ (115 :: itoa l[k].slot))) rfl rfl ?c1 ?c2 (by decide) ?c3 ?c4 ?c5 _ rfl ?_))
          case c1 => exact wt_news w5 (.leaf ⟨2, l[k].slot, 0, 0⟩ (115 :: itoa l[k].slot))
          case c2 => exact wt_one _
          case c3 => unfold maxLen; omega
          case c4 => omega
          case c5 => rw [World.size_alloc]; omega
          · intro g' cap' w9 hown' hgrow _ _
            have HN := Lib.hid (HNX.out (.leaf ⟨2, l[k].slot, 0, 0⟩ (115 :: itoa l[k].slot)) HTO.out (by show [_] = _; rw [← HX.out]) _ _ _ _ _ _ _ _ HBW.out rfl rfl hown' hgrow HROW.out)
            clear hown' hgrow
            go_wp2
            case roundEnd => exact HN.out
        · subst hvs
          have HO := Lib.hid hown
          have HROW := Lib.hid (fun j (hj : (Value.slice (some ⟨gs, 0, none⟩) s0.length cs).ownBlock = some j) => (hown.lt j hj).1)
          have hcs : s0.length ≤ cs := own_cap2 hown
          clear hown
          by_cases hcl : cs = s0.length
          · subst hcl
            go_wp2_with (first | (go_at_call 18; (with_reducible refine (strength_is 2 (by omega) _).mono ?_); rintro e w9 ⟨rfl, hw9⟩; have hw9x := hw9.symm; clear hw9; subst hw9x) | (go_at_call 19; (with_reducible refine (operands_is 2 0 _ HAR.out).mono ?_); rintro e w9 ⟨rfl, hw9⟩; have hw9x := hw9.symm; clear hw9; subst hw9x))
            go_at_call 21
            refine (implFormatInt l[k].slot (by omega) (by omega) _ (tab_on HT.out (bl_alloc (Below.refl _ _) _))).mono ?_
            rintro e w5 ⟨rfl, hb5⟩
            have HBW := Lib.hid (bl_call HB2.out hb5)
            have hs5 := HBW.out.size
            have HOW := Lib.hid (own_below HO.out (bl_call (bl_alloc (Below.refl _ wr) (.cells #[.int .i64 2, .int .i64 l[k].slot, .complex .f64 l[k].re l[k].im] 43)) hb5))
            clear hb5
            go_wp2_with (first | (at_builtin; refine wpList_append_lies _ rfl (.tmp 98) (.tmp 102) 40 rfl w.heap.size 49 i0 (.agg #[.string ⟨#[]⟩, .int .i64 0]) 2 24 Tryd.underlying40 hi hz0 hz1 hz2 rfl (by decide) _ _ _ rfl (HOW.out.alloc _) ⟨w5.heap.size, 0, none⟩ 1 1 (wtCells (.leaf ⟨2, l[k].slot, 0, 0⟩ (115 :: itoa l[k].slot))) rfl rfl ?c1 ?c2 (by decide) ?c3 ?c4 ?c5 _ rfl ?_))
            case c1 => exact wt_news w5 (.leaf ⟨2, l[k].slot, 0, 0⟩ (115 :: itoa l[k].slot))
            case c2 => exact wt_one _
            case c3 => unfold maxLen; omega
            case c4 => omega
            case c5 => rw [World.size_alloc]; omega
            · intro g' cap' w9 hown' hgrow _ _
              have HN := Lib.hid (HNX.out (.leaf ⟨2, l[k].slot, 0, 0⟩ (115 :: itoa l[k].slot)) HTO.out (by show [_] = _; rw [← HX.out]) _ _ _ _ _ _ _ _ HBW.out rfl rfl hown' hgrow HROW.out)
              clear hown' hgrow
              go_wp2
              case roundEnd => exact HN.out
          · have hcl2 : s0.length < cs := by omega
            go_wp2_with (first | (go_at_call 18; (with_reducible refine (strength_is 2 (by omega) _).mono ?_); rintro e w9 ⟨rfl, hw9⟩; have hw9x := hw9.symm; clear hw9; subst hw9x) | (go_at_call 19; (with_reducible refine (operands_is 2 0 _ HAR.out).mono ?_); rintro e w9 ⟨rfl, hw9⟩; have hw9x := hw9.symm; clear hw9; subst hw9x))
            go_at_call 21
            refine (implFormatInt l[k].slot (by omega) (by omega) _ (tab_on HT.out (bl_alloc (Below.refl _ _) _))).mono ?_
            rintro e w5 ⟨rfl, hb5⟩
            have HBW := Lib.hid (bl_call HB2.out hb5)
            have hs5 := HBW.out.size
            have HOW := Lib.hid (own_below HO.out (bl_call (bl_alloc (Below.refl _ wr) (.cells #[.int .i64 2, .int .i64 l[k].slot, .complex .f64 l[k].re l[k].im] 43)) hb5))
            clear hb5
            go_wp2_with (first | (at_builtin; refine wpList_append_lies _ rfl (.tmp 98) (.tmp 102) 40 rfl w.heap.size 49 i0 (.agg #[.string ⟨#[]⟩, .int .i64 0]) 2 24 Tryd.underlying40 hi hz0 hz1 hz2 rfl (by decide) _ _ _ rfl (HOW.out.alloc _) ⟨w5.heap.size, 0, none⟩ 1 1 (wtCells (.leaf ⟨2, l[k].slot, 0, 0⟩ (115 :: itoa l[k].slot))) rfl rfl ?c1 ?c2 (by decide) ?c3 ?c4 ?c5 _ rfl ?_))
            case c1 => exact wt_news w5 (.leaf ⟨2, l[k].slot, 0, 0⟩ (115 :: itoa l[k].slot))
            case c2 => exact wt_one _
            case c3 => unfold maxLen; omega
            case c4 => omega
            case c5 => rw [World.size_alloc]; omega
            · intro g' cap' w9 hown' hgrow _ _
              have HN := Lib.hid (HNX.out (.leaf ⟨2, l[k].slot, 0, 0⟩ (115 :: itoa l[k].slot)) HTO.out (by show [_] = _; rw [← HX.out]) _ _ _ _ _ _ _ _ HBW.out rfl rfl hown' hgrow HROW.out)
              clear hown' hgrow
              go_wp2
              case roundEnd => exact HN.out
      · obtain ⟨a, rfl⟩ : ∃ a, ops = [a] := List.length_eq_one_iff.1 (by rw [hops, hkk]; rfl)
        rw [hkk] at x0
        have HKK := Lib.hid hkk
        have HAR := Lib.hid (show ar 3 = 1 from rfl)
        obtain ⟨hs0, hre, him⟩ : l[k].slot = 0 ∧ l[k].re = 0 ∧ l[k].im = 0 := by rcases hgx with ⟨h, _⟩ | ⟨h, _⟩ | ⟨_, a, b, c⟩ <;> first | exact ⟨a, b, c⟩ | omega
        have HX := Lib.hid (nd_op hs0 hre him)
        have hta := HOK.out a (by simp)
        have HTO := Lib.hid (show TOk (.one l[k] a) from TOk.one (by omega) (nd_op hs0 hre him) hta)
        have HTF := Lib.hid (show (Ex.one l[k] a).flat = ([a] : List Ex).flatMap Ex.flat ++ [l[k]] by show a.flat ++ [l[k]] = _; simp)
        have hfl60 : a.flat.length ≤ 60 := by
          have h1 := flat_le (a := a) (ts := s0 ++ [a]) (by simp)
          rw [HFL.out, List.length_take] at h1
          omega
        have htl : a.txt.length ≤ 1000000 := by have := hta.2; omega
        have HB2 := Lib.hid (bl_alloc HB.out (.cells #[.int .i64 3, .int .i64 l[k].slot, .complex .f64 l[k].re l[k].im] 43))
        clear hgx hops hre him hs0
        obtain ⟨gs, cs, hvs⟩ := Joins.ownsRow_form hown (by simp)
        subst hvs
        have hcs := own_cap2 hown
        have hcs2 : s0.length + 1 ≤ cs := by simpa using hcs
        have hgl : gs < wr.heap.size := (hown.lt gs rfl).2
        have r0 : wr.cell? ⟨gs, s0.length * 2, none⟩ = some (tx a.txt) := by simpa using wt_cell hown 0 (tx a.txt) rfl
        have r1 : wr.cell? ⟨gs, s0.length * 2 + 1, none⟩ = some (.int .i64 (a.str : Int)) := by simpa using wt_cell hown 1 (.int .i64 (a.str : Int)) rfl
        have HO : Hid (wr.ownsRow w.heap.size 49 2 (.slice (some ⟨gs, 0, none⟩) s0.length cs) s0.length (s0.flatMap wtCells)) := Lib.hid (by
          have h1 := hown
          rw [show (s0 ++ [a]).length = s0.length + 1 by simp] at h1
          have h2 := own_take2 h1 (k := s0.length) (by omega)
          rwa [wt_take] at h2)
        have HROW := Lib.hid (fun j (hj : (Value.slice (some ⟨gs, 0, none⟩) s0.length cs).ownBlock = some j) => (HO.out.lt j hj).1)
        have HXS : Hid (([.string ((⟨#[43]⟩ : ByteArray) ++ ⟨(ins 4 a.txt a.str).toArray⟩), .int .i64 (stg 3 : Int)] : List Value) = wtCells (.one l[k] a)) := Lib.hid (by
          have h1 : (Ex.one l[k] a).txt = 43 :: ins 4 a.txt a.str := by
            show (if l[k].kind = 3 then 43 :: ins 4 a.txt a.str else if l[k].kind = 4 then 45 :: ins 4 a.txt a.str else wordT l[k].kind ++ (a.txt ++ [41])) = _
            rw [hkk]; rfl
          have h2 : (Ex.one l[k] a).str = stg 3 := by show stg l[k].kind = _; rw [hkk]
          show _ = [tx (Ex.one l[k] a).txt, .int .i64 ((Ex.one l[k] a).str : Int)]
          rw [h1, h2]
          rfl)
        have htl2 := ins_len 4 a.str a.txt
        have hwr0 : IntKind.i64.wrap 0 = 0 := by decide
        have hwr1 : IntKind.i64.wrap 1 = 1 := by decide
        have g1 : (9223372036854775807 < 1 + (ins 4 a.txt a.str).length) = False := eq_false (by omega)
        clear hown hkk
        go_wp2_with (first | (go_at_call 18; (with_reducible refine (strength_is 3 (by omega) _).mono ?_); rintro e w9 ⟨rfl, hw9⟩; have hw9x := hw9.symm; clear hw9; subst hw9x) | (go_at_call 19; (with_reducible refine (operands_is 3 1 _ HAR.out).mono ?_); rintro e w9 ⟨rfl, hw9⟩; have hw9x := hw9.symm; clear hw9; subst hw9x))
        have HBX := Lib.hid (Blk.new wr 43 #[.int .i64 3, .int .i64 l[k].slot, .complex .f64 l[k].re l[k].im])
        have b0 := HBX.out.cell 0
        have HS : Hid (∀ W, Below (wr.alloc (.cells #[.int .i64 3, .int .i64 l[k].slot, .complex .f64 l[k].re l[k].im] 43)).heap.size (wr.alloc (.cells #[.int .i64 3, .int .i64 l[k].slot, .complex .f64 l[k].re l[k].im] 43)) W → (W.cell? ⟨wr.heap.size, 0, none⟩ = some (.int .i64 3) ∧ W.cell? ⟨gs, s0.length * 2, none⟩ = some (tx a.txt) ∧ W.cell? ⟨gs, s0.length * 2 + 1, none⟩ = some (.int .i64 (a.str : Int)))) := Lib.hid fun W hW => ⟨lit_on b0 hW, lit_on (lit_on r0 (bl_alloc (Below.refl _ _) _)) hW, lit_on (lit_on r1 (bl_alloc (Below.refl _ _) _)) hW⟩
        clear r0 r1
        go_upto_region 18 with fail
        refine wp_region_held_drew (S := fun W => W.cell? ⟨wr.heap.size, 0, none⟩ = some (.int .i64 3) ∧ W.cell? ⟨gs, s0.length * 2, none⟩ = some (tx a.txt) ∧ W.cell? ⟨gs, s0.length * 2 + 1, none⟩ = some (.int .i64 (a.str : Int))) (by kernel_rfl) ?_ (fun hHeld => ?_)
        · exact HS.out _ (by repeat (first | exact Below.refl _ _ | assumption | refine bl_drew ?_ | refine bl_alloc ?_ _ | refine bl_call ?_ (by assumption)))
        refine wpAnyH_take (i := 1) (v := ?_) rfl (by kernel_rfl) (by kernel_rfl) (by kernel_rfl) (fun _ _ _ h => h) (Or.inl ⟨by rfl, ?_⟩) (by assumption) ?_
        rotate_left
        · intro W hSW
          (try dsimp only at hSW)
          obtain ⟨z0, z1, z2⟩ := hSW
          go_simp
          try with_reducible rfl
        try simp only [Act.put, List.setIfInBounds_toArray, List.set_cons_zero, List.set_cons_succ]
        refine wpAnyH_take (i := 2) (v := ?_) rfl (by kernel_rfl) (by kernel_rfl) (by kernel_rfl) (fun _ _ _ h => h) (Or.inl ⟨by rfl, ?_⟩) (by assumption) ?_
        rotate_left
        · intro W hSW
          (try dsimp only at hSW)
          obtain ⟨z0, z1, z2⟩ := hSW
          go_simp
          try with_reducible rfl
        try simp only [Act.put, List.setIfInBounds_toArray, List.set_cons_zero, List.set_cons_succ]
        refine wpAnyH_take (i := 3) (v := ?_) rfl (by kernel_rfl) (by kernel_rfl) (by kernel_rfl) (fun _ _ _ h => h) (Or.inl ⟨by rfl, ?_⟩) (by assumption) ?_
        rotate_left
        · intro W hSW
          (try dsimp only at hSW)
          obtain ⟨z0, z1, z2⟩ := hSW
          go_simp
          try with_reducible rfl
        try simp only [Act.put, List.setIfInBounds_toArray, List.set_cons_zero, List.set_cons_succ]
        refine wpAnyH_take (i := 6) (v := ?_) rfl (by kernel_rfl) (by kernel_rfl) (by kernel_rfl) (fun _ _ _ h => h) (Or.inl ⟨by rfl, ?_⟩) (by assumption) ?_
        rotate_left
        · intro W hSW
          (try dsimp only at hSW)
          obtain ⟨z0, z1, z2⟩ := hSW
          go_simp
          try with_reducible rfl
        try simp only [Act.put, List.setIfInBounds_toArray, List.set_cons_zero, List.set_cons_succ]
        refine wpAnyH_take (i := 7) (v := ?_) rfl (by kernel_rfl) (by kernel_rfl) (by kernel_rfl) (fun _ _ _ h => h) (Or.inl ⟨by rfl, ?_⟩) (by assumption) ?_
        rotate_left
        · intro W hSW
          (try dsimp only at hSW)
          obtain ⟨z0, z1, z2⟩ := hSW
          go_simp
          try with_reducible rfl
        try simp only [Act.put, List.setIfInBounds_toArray, List.set_cons_zero, List.set_cons_succ]
        refine wpAnyH_take (i := 8) (v := ?_) rfl (by kernel_rfl) (by kernel_rfl) (by kernel_rfl) (fun _ _ _ h => h) (Or.inl ⟨by rfl, ?_⟩) (by assumption) ?_
        rotate_left
        · intro W hSW
          (try dsimp only at hSW)
          obtain ⟨z0, z1, z2⟩ := hSW
          go_simp
          try with_reducible rfl
        try simp only [Act.put, List.setIfInBounds_toArray, List.set_cons_zero, List.set_cons_succ]
        refine wpAnyH_ready (rs := [0, 9]) (by kernel_rfl) (by simp) ?_
        refine AllReadyH.cons rfl (fun K hK => ?_) (AllReadyH.cons rfl (fun K hK => ?_) (AllReadyH.nil))
        · go_simp
          refine hK.out _ _ ?_ (fun hHeld => ?_)
          · exact HS.out _ (by repeat (first | exact Below.refl _ _ | assumption | refine bl_drew ?_ | refine bl_alloc ?_ _ | refine bl_call ?_ (by assumption)))
          clear hK K
          try simp only [Act.put, List.setIfInBounds_toArray, List.set_cons_zero, List.set_cons_succ]
          refine wpAnyH_more (S' := fun W => (W.cell? ⟨wr.heap.size, 0, none⟩ = some (.int .i64 3) ∧ W.cell? ⟨gs, s0.length * 2, none⟩ = some (tx a.txt) ∧ W.cell? ⟨gs, s0.length * 2 + 1, none⟩ = some (.int .i64 (a.str : Int))) ∧ W.cell? ⟨wr.heap.size + 1, 0, none⟩ = some (.string ⟨#[43]⟩)) (fun _ h => h.1) ?_ (fun hHeld2 => ?_)
          · exact ⟨hHeld, (Blk.new_at (wr.alloc (.cells #[.int .i64 3, .int .i64 l[k].slot, .complex .f64 l[k].re l[k].im] 43)) 9 #[.string ⟨#[43]⟩, .string ⟨#[45]⟩] (g := wr.heap.size + 1) (by first | rfl | (rw [World.size_alloc]; done) | (simp; done))).cell 0⟩
          have hLit := hHeld2.2
          refine wpAnyH_take (i := 4) (v := ?_) rfl (by kernel_rfl) (by kernel_rfl) (by kernel_rfl) (fun _ _ _ h => h) (Or.inl ⟨by rfl, ?_⟩) (by assumption) ?_
          rotate_left
          · intro W hSW
            (try dsimp only at hSW)
            obtain ⟨⟨z0, z1, z2⟩, z3⟩ := hSW
            go_simp
            try with_reducible rfl
          try simp only [Act.put, List.setIfInBounds_toArray, List.set_cons_zero, List.set_cons_succ]
          refine wpAnyH_take (i := 5) (v := ?_) rfl (by kernel_rfl) (by kernel_rfl) (by kernel_rfl) (fun _ _ _ h => h) (Or.inl ⟨by rfl, ?_⟩) (by assumption) ?_
          rotate_left
          · intro W hSW
            (try dsimp only at hSW)
            obtain ⟨⟨z0, z1, z2⟩, z3⟩ := hSW
            go_simp
            try with_reducible rfl
          try simp only [Act.put, List.setIfInBounds_toArray, List.set_cons_zero, List.set_cons_succ]
          refine wpAnyH_ready (rs := [9]) (by kernel_rfl) (by simp) ?_
          refine AllReadyH.cons rfl (fun K hK => ?_) (AllReadyH.nil)
          · go_simp
            refine (inside_is a.txt a.str 4 4 rfl htl _).mono ?_
            rintro e w5 ⟨rfl, hb5⟩
            go_simp
            refine hK.out _ _ ?_ (fun hHeld => ?_)
            · exact ⟨HS.out _ (by repeat (first | exact Below.refl _ _ | assumption | refine bl_drew ?_ | refine bl_alloc ?_ _ | refine bl_call ?_ (by assumption))), lit_on hLit hb5⟩
            have hLit := hHeld.2
            clear hK K
            try simp only [Act.put, List.setIfInBounds_toArray, List.set_cons_zero, List.set_cons_succ]
            refine wpAnyH_take (i := 10) (v := ?_) rfl (by kernel_rfl) (by kernel_rfl) (by kernel_rfl) (fun _ _ _ h => h) (Or.inl ⟨by rfl, ?_⟩) (by assumption) ?_
            rotate_left
            · intro W hSW
              (try dsimp only at hSW)
              obtain ⟨⟨z0, z1, z2⟩, z3⟩ := hSW
              go_simp
              try with_reducible rfl
            try simp only [Act.put, List.setIfInBounds_toArray, List.set_cons_zero, List.set_cons_succ]
            refine wpAnyH_take (i := 11) (v := ?_) rfl (by kernel_rfl) (by kernel_rfl) (by kernel_rfl) (fun _ _ _ h => h) (Or.inl ⟨by rfl, ?_⟩) (by assumption) ?_
            rotate_left
            · intro W hSW
              (try dsimp only at hSW)
              obtain ⟨⟨z0, z1, z2⟩, z3⟩ := hSW
              go_simp
              try with_reducible rfl
            try simp only [Act.put, List.setIfInBounds_toArray, List.set_cons_zero, List.set_cons_succ]
            refine wpAnyH_done (by kernel_rfl) ?_ _
            have HOW := Lib.hid (own_below HO.out (show Below wr.heap.size wr w5 from bl_call (bl_alloc (Below.refl _ wr) (.cells #[.int .i64 3, .int .i64 l[k].slot, .complex .f64 l[k].re l[k].im] 43)) (by repeat (first | exact Below.refl _ _ | assumption | refine bl_drew ?_ | refine bl_alloc ?_ _ | refine bl_call ?_ (by assumption)))))
            have HBW := Lib.hid (show Below w.heap.size w w5 from bl_call HB2.out (by repeat (first | exact Below.refl _ _ | assumption | refine bl_drew ?_ | refine bl_alloc ?_ _ | refine bl_call ?_ (by assumption))))
            have hsW := HBW.out.size
            go_wp2_with (first | (at_builtin; refine wpList_append_lies _ rfl (.tmp 98) (.tmp 102) 40 rfl w.heap.size 49 i0 (.agg #[.string ⟨#[]⟩, .int .i64 0]) 2 24 Tryd.underlying40 hi hz0 hz1 hz2 rfl (by decide) _ _ _ rfl (HOW.out.alloc _) ⟨_, 0, none⟩ 1 1 ([.string ((⟨#[43]⟩ : ByteArray) ++ ⟨(ins 4 a.txt a.str).toArray⟩), .int .i64 (stg 3 : Int)]) rfl rfl ?c1 ?c2 (by decide) ?c3 ?c4 ?c5 _ rfl ?_))
            case c1 => exact wt_news2 _ _ _ _ (by first | rfl | (rw [World.size_alloc]; done) | (simp; done))
            case c2 => exact wt_one2 _ _ rfl rfl
            case c3 => unfold maxLen; omega
            case c4 => omega
            case c5 => first | (rw [World.size_alloc]; omega) | exact (bl_alloc HBW.out _).size
            · intro g' cap' w9 hown' hgrow _ _
              have HN := Lib.hid (HNX.out (.one l[k] a) HTO.out HTF.out _ _ _ _ _ _ _ _ HBW.out rfl (by rw [HXS.out]) hown' hgrow HROW.out)
              clear hown' hgrow
              go_wp2
              case roundEnd => exact HN.out
        · go_simp
          refine (inside_is a.txt a.str 4 4 rfl htl _).mono ?_
          rintro e w5 ⟨rfl, hb5⟩
          go_simp
          refine hK.out _ _ ?_ (fun hHeld => ?_)
          · exact HS.out _ (by repeat (first | exact Below.refl _ _ | assumption | refine bl_drew ?_ | refine bl_alloc ?_ _ | refine bl_call ?_ (by assumption)))
          clear hK K
          try simp only [Act.put, List.setIfInBounds_toArray, List.set_cons_zero, List.set_cons_succ]
          refine wpAnyH_ready (rs := [0]) (by kernel_rfl) (by simp) ?_
          refine AllReadyH.cons rfl (fun K hK => ?_) (AllReadyH.nil)
          · go_simp
            refine hK.out _ _ ?_ (fun hHeld => ?_)
            · exact HS.out _ (by repeat (first | exact Below.refl _ _ | assumption | refine bl_drew ?_ | refine bl_alloc ?_ _ | refine bl_call ?_ (by assumption)))
            clear hK K
            try simp only [Act.put, List.setIfInBounds_toArray, List.set_cons_zero, List.set_cons_succ]
            refine wpAnyH_more (S' := fun W => (W.cell? ⟨wr.heap.size, 0, none⟩ = some (.int .i64 3) ∧ W.cell? ⟨gs, s0.length * 2, none⟩ = some (tx a.txt) ∧ W.cell? ⟨gs, s0.length * 2 + 1, none⟩ = some (.int .i64 (a.str : Int))) ∧ W.cell? ⟨w5.heap.size, 0, none⟩ = some (.string ⟨#[43]⟩)) (fun _ h => h.1) ?_ (fun hHeld2 => ?_)
            · exact ⟨hHeld, (Blk.new_at w5 9 #[.string ⟨#[43]⟩, .string ⟨#[45]⟩] (g := w5.heap.size) (by first | rfl | (rw [World.size_alloc]; done) | (simp; done))).cell 0⟩
            have hLit := hHeld2.2
            refine wpAnyH_take (i := 4) (v := ?_) rfl (by kernel_rfl) (by kernel_rfl) (by kernel_rfl) (fun _ _ _ h => h) (Or.inl ⟨by rfl, ?_⟩) (by assumption) ?_
            rotate_left
            · intro W hSW
              (try dsimp only at hSW)
              obtain ⟨⟨z0, z1, z2⟩, z3⟩ := hSW
              go_simp
              try with_reducible rfl
            try simp only [Act.put, List.setIfInBounds_toArray, List.set_cons_zero, List.set_cons_succ]
            refine wpAnyH_take (i := 5) (v := ?_) rfl (by kernel_rfl) (by kernel_rfl) (by kernel_rfl) (fun _ _ _ h => h) (Or.inl ⟨by rfl, ?_⟩) (by assumption) ?_
            rotate_left
            · intro W hSW
              (try dsimp only at hSW)
              obtain ⟨⟨z0, z1, z2⟩, z3⟩ := hSW
              go_simp
              try with_reducible rfl
            try simp only [Act.put, List.setIfInBounds_toArray, List.set_cons_zero, List.set_cons_succ]
            refine wpAnyH_take (i := 10) (v := ?_) rfl (by kernel_rfl) (by kernel_rfl) (by kernel_rfl) (fun _ _ _ h => h) (Or.inl ⟨by rfl, ?_⟩) (by assumption) ?_
            rotate_left
            · intro W hSW
              (try dsimp only at hSW)
              obtain ⟨⟨z0, z1, z2⟩, z3⟩ := hSW
              go_simp
              try with_reducible rfl
            try simp only [Act.put, List.setIfInBounds_toArray, List.set_cons_zero, List.set_cons_succ]
            refine wpAnyH_take (i := 11) (v := ?_) rfl (by kernel_rfl) (by kernel_rfl) (by kernel_rfl) (fun _ _ _ h => h) (Or.inl ⟨by rfl, ?_⟩) (by assumption) ?_
            rotate_left
            · intro W hSW
              (try dsimp only at hSW)
              obtain ⟨⟨z0, z1, z2⟩, z3⟩ := hSW
              go_simp
              try with_reducible rfl
            try simp only [Act.put, List.setIfInBounds_toArray, List.set_cons_zero, List.set_cons_succ]
            refine wpAnyH_done (by kernel_rfl) ?_ _
            have HOW := Lib.hid (own_below HO.out (show Below wr.heap.size wr (w5.alloc (.cells #[.string ⟨#[43]⟩, .string ⟨#[45]⟩] 9)) from bl_call (bl_alloc (Below.refl _ wr) (.cells #[.int .i64 3, .int .i64 l[k].slot, .complex .f64 l[k].re l[k].im] 43)) (by repeat (first | exact Below.refl _ _ | assumption | refine bl_drew ?_ | refine bl_alloc ?_ _ | refine bl_call ?_ (by assumption)))))
            have HBW := Lib.hid (show Below w.heap.size w (w5.alloc (.cells #[.string ⟨#[43]⟩, .string ⟨#[45]⟩] 9)) from bl_call HB2.out (by repeat (first | exact Below.refl _ _ | assumption | refine bl_drew ?_ | refine bl_alloc ?_ _ | refine bl_call ?_ (by assumption))))
            have hsW := HBW.out.size
            go_wp2_with (first | (at_builtin; refine wpList_append_lies _ rfl (.tmp 98) (.tmp 102) 40 rfl w.heap.size 49 i0 (.agg #[.string ⟨#[]⟩, .int .i64 0]) 2 24 Tryd.underlying40 hi hz0 hz1 hz2 rfl (by decide) _ _ _ rfl (HOW.out.alloc _) ⟨_, 0, none⟩ 1 1 ([.string ((⟨#[43]⟩ : ByteArray) ++ ⟨(ins 4 a.txt a.str).toArray⟩), .int .i64 (stg 3 : Int)]) rfl rfl ?c1 ?c2 (by decide) ?c3 ?c4 ?c5 _ rfl ?_))
            case c1 => exact wt_news2 _ _ _ _ (by first | rfl | (rw [World.size_alloc]; done) | (simp; done))
            case c2 => exact wt_one2 _ _ rfl rfl
            case c3 => unfold maxLen; omega
            case c4 => omega
            case c5 => first | (rw [World.size_alloc]; omega) | exact (bl_alloc HBW.out _).size
            · intro g' cap' w9 hown' hgrow _ _
              have HN := Lib.hid (HNX.out (.one l[k] a) HTO.out HTF.out _ _ _ _ _ _ _ _ HBW.out rfl (by rw [HXS.out]) hown' hgrow HROW.out)
              clear hown' hgrow
              go_wp2
              case roundEnd => exact HN.out
      · obtain ⟨a, rfl⟩ : ∃ a, ops = [a] := List.length_eq_one_iff.1 (by rw [hops, hkk]; rfl)
        rw [hkk] at x0
        have HKK := Lib.hid hkk
        have HAR := Lib.hid (show ar 4 = 1 from rfl)
        obtain ⟨hs0, hre, him⟩ : l[k].slot = 0 ∧ l[k].re = 0 ∧ l[k].im = 0 := by rcases hgx with ⟨h, _⟩ | ⟨h, _⟩ | ⟨_, a, b, c⟩ <;> first | exact ⟨a, b, c⟩ | omega
        have HX := Lib.hid (nd_op hs0 hre him)
        have hta := HOK.out a (by simp)
        have HTO := Lib.hid (show TOk (.one l[k] a) from TOk.one (by omega) (nd_op hs0 hre him) hta)
        have HTF := Lib.hid (show (Ex.one l[k] a).flat = ([a] : List Ex).flatMap Ex.flat ++ [l[k]] by show a.flat ++ [l[k]] = _; simp)
        have hfl60 : a.flat.length ≤ 60 := by
          have h1 := flat_le (a := a) (ts := s0 ++ [a]) (by simp)
          rw [HFL.out, List.length_take] at h1
          omega
        have htl : a.txt.length ≤ 1000000 := by have := hta.2; omega
        have HB2 := Lib.hid (bl_alloc HB.out (.cells #[.int .i64 4, .int .i64 l[k].slot, .complex .f64 l[k].re l[k].im] 43))
        clear hgx hops hre him hs0
        obtain ⟨gs, cs, hvs⟩ := Joins.ownsRow_form hown (by simp)
        subst hvs
        have hcs := own_cap2 hown
        have hcs2 : s0.length + 1 ≤ cs := by simpa using hcs
        have hgl : gs < wr.heap.size := (hown.lt gs rfl).2
        have r0 : wr.cell? ⟨gs, s0.length * 2, none⟩ = some (tx a.txt) := by simpa using wt_cell hown 0 (tx a.txt) rfl
        have r1 : wr.cell? ⟨gs, s0.length * 2 + 1, none⟩ = some (.int .i64 (a.str : Int)) := by simpa using wt_cell hown 1 (.int .i64 (a.str : Int)) rfl
        have HO : Hid (wr.ownsRow w.heap.size 49 2 (.slice (some ⟨gs, 0, none⟩) s0.length cs) s0.length (s0.flatMap wtCells)) := Lib.hid (by
          have h1 := hown
          rw [show (s0 ++ [a]).length = s0.length + 1 by simp] at h1
          have h2 := own_take2 h1 (k := s0.length) (by omega)
          rwa [wt_take] at h2)
        have HROW := Lib.hid (fun j (hj : (Value.slice (some ⟨gs, 0, none⟩) s0.length cs).ownBlock = some j) => (HO.out.lt j hj).1)
        have HXS : Hid (([.string ((⟨#[45]⟩ : ByteArray) ++ ⟨(ins 4 a.txt a.str).toArray⟩), .int .i64 (stg 4 : Int)] : List Value) = wtCells (.one l[k] a)) := Lib.hid (by
          have h1 : (Ex.one l[k] a).txt = 45 :: ins 4 a.txt a.str := by
            show (if l[k].kind = 3 then 43 :: ins 4 a.txt a.str else if l[k].kind = 4 then 45 :: ins 4 a.txt a.str else wordT l[k].kind ++ (a.txt ++ [41])) = _
            rw [hkk]; rfl
          have h2 : (Ex.one l[k] a).str = stg 4 := by show stg l[k].kind = _; rw [hkk]
          show _ = [tx (Ex.one l[k] a).txt, .int .i64 ((Ex.one l[k] a).str : Int)]
          rw [h1, h2]
          rfl)
        have htl2 := ins_len 4 a.str a.txt
        have hwr0 : IntKind.i64.wrap 0 = 0 := by decide
        have hwr1 : IntKind.i64.wrap 1 = 1 := by decide
        have g1 : (9223372036854775807 < 1 + (ins 4 a.txt a.str).length) = False := eq_false (by omega)
        clear hown hkk
        go_wp2_with (first | (go_at_call 18; (with_reducible refine (strength_is 4 (by omega) _).mono ?_); rintro e w9 ⟨rfl, hw9⟩; have hw9x := hw9.symm; clear hw9; subst hw9x) | (go_at_call 19; (with_reducible refine (operands_is 4 1 _ HAR.out).mono ?_); rintro e w9 ⟨rfl, hw9⟩; have hw9x := hw9.symm; clear hw9; subst hw9x))
        have HBX := Lib.hid (Blk.new wr 43 #[.int .i64 4, .int .i64 l[k].slot, .complex .f64 l[k].re l[k].im])
        have b0 := HBX.out.cell 0
        have HS : Hid (∀ W, Below (wr.alloc (.cells #[.int .i64 4, .int .i64 l[k].slot, .complex .f64 l[k].re l[k].im] 43)).heap.size (wr.alloc (.cells #[.int .i64 4, .int .i64 l[k].slot, .complex .f64 l[k].re l[k].im] 43)) W → (W.cell? ⟨wr.heap.size, 0, none⟩ = some (.int .i64 4) ∧ W.cell? ⟨gs, s0.length * 2, none⟩ = some (tx a.txt) ∧ W.cell? ⟨gs, s0.length * 2 + 1, none⟩ = some (.int .i64 (a.str : Int)))) := Lib.hid fun W hW => ⟨lit_on b0 hW, lit_on (lit_on r0 (bl_alloc (Below.refl _ _) _)) hW, lit_on (lit_on r1 (bl_alloc (Below.refl _ _) _)) hW⟩
        clear r0 r1
        go_upto_region 18 with fail
        refine wp_region_held_drew (S := fun W => W.cell? ⟨wr.heap.size, 0, none⟩ = some (.int .i64 4) ∧ W.cell? ⟨gs, s0.length * 2, none⟩ = some (tx a.txt) ∧ W.cell? ⟨gs, s0.length * 2 + 1, none⟩ = some (.int .i64 (a.str : Int))) (by kernel_rfl) ?_ (fun hHeld => ?_)
        · exact HS.out _ (by repeat (first | exact Below.refl _ _ | assumption | refine bl_drew ?_ | refine bl_alloc ?_ _ | refine bl_call ?_ (by assumption)))
        refine wpAnyH_take (i := 1) (v := ?_) rfl (by kernel_rfl) (by kernel_rfl) (by kernel_rfl) (fun _ _ _ h => h) (Or.inl ⟨by rfl, ?_⟩) (by assumption) ?_
        rotate_left
        · intro W hSW
          (try dsimp only at hSW)
          obtain ⟨z0, z1, z2⟩ := hSW
          go_simp
          try with_reducible rfl
        try simp only [Act.put, List.setIfInBounds_toArray, List.set_cons_zero, List.set_cons_succ]
        refine wpAnyH_take (i := 2) (v := ?_) rfl (by kernel_rfl) (by kernel_rfl) (by kernel_rfl) (fun _ _ _ h => h) (Or.inl ⟨by rfl, ?_⟩) (by assumption) ?_
        rotate_left
        · intro W hSW
          (try dsimp only at hSW)
          obtain ⟨z0, z1, z2⟩ := hSW
          go_simp
          try with_reducible rfl
        try simp only [Act.put, List.setIfInBounds_toArray, List.set_cons_zero, List.set_cons_succ]
        refine wpAnyH_take (i := 3) (v := ?_) rfl (by kernel_rfl) (by kernel_rfl) (by kernel_rfl) (fun _ _ _ h => h) (Or.inl ⟨by rfl, ?_⟩) (by assumption) ?_
        rotate_left
        · intro W hSW
          (try dsimp only at hSW)
          obtain ⟨z0, z1, z2⟩ := hSW
          go_simp
          try with_reducible rfl
        try simp only [Act.put, List.setIfInBounds_toArray, List.set_cons_zero, List.set_cons_succ]
        refine wpAnyH_take (i := 6) (v := ?_) rfl (by kernel_rfl) (by kernel_rfl) (by kernel_rfl) (fun _ _ _ h => h) (Or.inl ⟨by rfl, ?_⟩) (by assumption) ?_
        rotate_left
        · intro W hSW
          (try dsimp only at hSW)
          obtain ⟨z0, z1, z2⟩ := hSW
          go_simp
          try with_reducible rfl
        try simp only [Act.put, List.setIfInBounds_toArray, List.set_cons_zero, List.set_cons_succ]
        refine wpAnyH_take (i := 7) (v := ?_) rfl (by kernel_rfl) (by kernel_rfl) (by kernel_rfl) (fun _ _ _ h => h) (Or.inl ⟨by rfl, ?_⟩) (by assumption) ?_
        rotate_left
        · intro W hSW
          (try dsimp only at hSW)
          obtain ⟨z0, z1, z2⟩ := hSW
          go_simp
          try with_reducible rfl
        try simp only [Act.put, List.setIfInBounds_toArray, List.set_cons_zero, List.set_cons_succ]
        refine wpAnyH_take (i := 8) (v := ?_) rfl (by kernel_rfl) (by kernel_rfl) (by kernel_rfl) (fun _ _ _ h => h) (Or.inl ⟨by rfl, ?_⟩) (by assumption) ?_
        rotate_left
        · intro W hSW
          (try dsimp only at hSW)
          obtain ⟨z0, z1, z2⟩ := hSW
          go_simp
          try with_reducible rfl
        try simp only [Act.put, List.setIfInBounds_toArray, List.set_cons_zero, List.set_cons_succ]
        refine wpAnyH_ready (rs := [0, 9]) (by kernel_rfl) (by simp) ?_
        refine AllReadyH.cons rfl (fun K hK => ?_) (AllReadyH.cons rfl (fun K hK => ?_) (AllReadyH.nil))
        · go_simp
          refine hK.out _ _ ?_ (fun hHeld => ?_)
          · exact HS.out _ (by repeat (first | exact Below.refl _ _ | assumption | refine bl_drew ?_ | refine bl_alloc ?_ _ | refine bl_call ?_ (by assumption)))
          clear hK K
          try simp only [Act.put, List.setIfInBounds_toArray, List.set_cons_zero, List.set_cons_succ]
          refine wpAnyH_more (S' := fun W => (W.cell? ⟨wr.heap.size, 0, none⟩ = some (.int .i64 4) ∧ W.cell? ⟨gs, s0.length * 2, none⟩ = some (tx a.txt) ∧ W.cell? ⟨gs, s0.length * 2 + 1, none⟩ = some (.int .i64 (a.str : Int))) ∧ W.cell? ⟨wr.heap.size + 1, 1, none⟩ = some (.string ⟨#[45]⟩)) (fun _ h => h.1) ?_ (fun hHeld2 => ?_)
          · exact ⟨hHeld, (Blk.new_at (wr.alloc (.cells #[.int .i64 4, .int .i64 l[k].slot, .complex .f64 l[k].re l[k].im] 43)) 9 #[.string ⟨#[43]⟩, .string ⟨#[45]⟩] (g := wr.heap.size + 1) (by first | rfl | (rw [World.size_alloc]; done) | (simp; done))).cell 1⟩
          have hLit := hHeld2.2
          refine wpAnyH_take (i := 4) (v := ?_) rfl (by kernel_rfl) (by kernel_rfl) (by kernel_rfl) (fun _ _ _ h => h) (Or.inl ⟨by rfl, ?_⟩) (by assumption) ?_
          rotate_left
          · intro W hSW
            (try dsimp only at hSW)
            obtain ⟨⟨z0, z1, z2⟩, z3⟩ := hSW
            go_simp
            try with_reducible rfl
          try simp only [Act.put, List.setIfInBounds_toArray, List.set_cons_zero, List.set_cons_succ]
          refine wpAnyH_take (i := 5) (v := ?_) rfl (by kernel_rfl) (by kernel_rfl) (by kernel_rfl) (fun _ _ _ h => h) (Or.inl ⟨by rfl, ?_⟩) (by assumption) ?_
          rotate_left
          · intro W hSW
            (try dsimp only at hSW)
            obtain ⟨⟨z0, z1, z2⟩, z3⟩ := hSW
            go_simp
            try with_reducible rfl
          try simp only [Act.put, List.setIfInBounds_toArray, List.set_cons_zero, List.set_cons_succ]
          refine wpAnyH_ready (rs := [9]) (by kernel_rfl) (by simp) ?_
          refine AllReadyH.cons rfl (fun K hK => ?_) (AllReadyH.nil)
          · go_simp
            refine (inside_is a.txt a.str 4 4 rfl htl _).mono ?_
            rintro e w5 ⟨rfl, hb5⟩
            go_simp
            refine hK.out _ _ ?_ (fun hHeld => ?_)
            · exact ⟨HS.out _ (by repeat (first | exact Below.refl _ _ | assumption | refine bl_drew ?_ | refine bl_alloc ?_ _ | refine bl_call ?_ (by assumption))), lit_on hLit hb5⟩
            have hLit := hHeld.2
            clear hK K
            try simp only [Act.put, List.setIfInBounds_toArray, List.set_cons_zero, List.set_cons_succ]
            refine wpAnyH_take (i := 10) (v := ?_) rfl (by kernel_rfl) (by kernel_rfl) (by kernel_rfl) (fun _ _ _ h => h) (Or.inl ⟨by rfl, ?_⟩) (by assumption) ?_
            rotate_left
            · intro W hSW
              (try dsimp only at hSW)
              obtain ⟨⟨z0, z1, z2⟩, z3⟩ := hSW
              go_simp
              try with_reducible rfl
            try simp only [Act.put, List.setIfInBounds_toArray, List.set_cons_zero, List.set_cons_succ]
            refine wpAnyH_take (i := 11) (v := ?_) rfl (by kernel_rfl) (by kernel_rfl) (by kernel_rfl) (fun _ _ _ h => h) (Or.inl ⟨by rfl, ?_⟩) (by assumption) ?_
            rotate_left
            · intro W hSW
              (try dsimp only at hSW)
              obtain ⟨⟨z0, z1, z2⟩, z3⟩ := hSW
              go_simp
              try with_reducible rfl
            try simp only [Act.put, List.setIfInBounds_toArray, List.set_cons_zero, List.set_cons_succ]
            refine wpAnyH_done (by kernel_rfl) ?_ _
            have HOW := Lib.hid (own_below HO.out (show Below wr.heap.size wr w5 from bl_call (bl_alloc (Below.refl _ wr) (.cells #[.int .i64 4, .int .i64 l[k].slot, .complex .f64 l[k].re l[k].im] 43)) (by repeat (first | exact Below.refl _ _ | assumption | refine bl_drew ?_ | refine bl_alloc ?_ _ | refine bl_call ?_ (by assumption)))))
            have HBW := Lib.hid (show Below w.heap.size w w5 from bl_call HB2.out (by repeat (first | exact Below.refl _ _ | assumption | refine bl_drew ?_ | refine bl_alloc ?_ _ | refine bl_call ?_ (by assumption))))
            have hsW := HBW.out.size
            go_wp2_with (first | (at_builtin; refine wpList_append_lies _ rfl (.tmp 98) (.tmp 102) 40 rfl w.heap.size 49 i0 (.agg #[.string ⟨#[]⟩, .int .i64 0]) 2 24 Tryd.underlying40 hi hz0 hz1 hz2 rfl (by decide) _ _ _ rfl (HOW.out.alloc _) ⟨_, 0, none⟩ 1 1 ([.string ((⟨#[45]⟩ : ByteArray) ++ ⟨(ins 4 a.txt a.str).toArray⟩), .int .i64 (stg 4 : Int)]) rfl rfl ?c1 ?c2 (by decide) ?c3 ?c4 ?c5 _ rfl ?_))
            case c1 => exact wt_news2 _ _ _ _ (by first | rfl | (rw [World.size_alloc]; done) | (simp; done))
            case c2 => exact wt_one2 _ _ rfl rfl
            case c3 => unfold maxLen; omega
            case c4 => omega
            case c5 => first | (rw [World.size_alloc]; omega) | exact (bl_alloc HBW.out _).size
            · intro g' cap' w9 hown' hgrow _ _
              have HN := Lib.hid (HNX.out (.one l[k] a) HTO.out HTF.out _ _ _ _ _ _ _ _ HBW.out rfl (by rw [HXS.out]) hown' hgrow HROW.out)
              clear hown' hgrow
              go_wp2
              case roundEnd => exact HN.out
        · go_simp
          refine (inside_is a.txt a.str 4 4 rfl htl _).mono ?_
          rintro e w5 ⟨rfl, hb5⟩
          go_simp
          refine hK.out _ _ ?_ (fun hHeld => ?_)
          · exact HS.out _ (by repeat (first | exact Below.refl _ _ | assumption | refine bl_drew ?_ | refine bl_alloc ?_ _ | refine bl_call ?_ (by assumption)))
          clear hK K
          try simp only [Act.put, List.setIfInBounds_toArray, List.set_cons_zero, List.set_cons_succ]
          refine wpAnyH_ready (rs := [0]) (by kernel_rfl) (by simp) ?_
          refine AllReadyH.cons rfl (fun K hK => ?_) (AllReadyH.nil)
          · go_simp
            refine hK.out _ _ ?_ (fun hHeld => ?_)
            · exact HS.out _ (by repeat (first | exact Below.refl _ _ | assumption | refine bl_drew ?_ | refine bl_alloc ?_ _ | refine bl_call ?_ (by assumption)))
            clear hK K
            try simp only [Act.put, List.setIfInBounds_toArray, List.set_cons_zero, List.set_cons_succ]
            refine wpAnyH_more (S' := fun W => (W.cell? ⟨wr.heap.size, 0, none⟩ = some (.int .i64 4) ∧ W.cell? ⟨gs, s0.length * 2, none⟩ = some (tx a.txt) ∧ W.cell? ⟨gs, s0.length * 2 + 1, none⟩ = some (.int .i64 (a.str : Int))) ∧ W.cell? ⟨w5.heap.size, 1, none⟩ = some (.string ⟨#[45]⟩)) (fun _ h => h.1) ?_ (fun hHeld2 => ?_)
            · exact ⟨hHeld, (Blk.new_at w5 9 #[.string ⟨#[43]⟩, .string ⟨#[45]⟩] (g := w5.heap.size) (by first | rfl | (rw [World.size_alloc]; done) | (simp; done))).cell 1⟩
            have hLit := hHeld2.2
            refine wpAnyH_take (i := 4) (v := ?_) rfl (by kernel_rfl) (by kernel_rfl) (by kernel_rfl) (fun _ _ _ h => h) (Or.inl ⟨by rfl, ?_⟩) (by assumption) ?_
            rotate_left
            · intro W hSW
              (try dsimp only at hSW)
              obtain ⟨⟨z0, z1, z2⟩, z3⟩ := hSW
              go_simp
              try with_reducible rfl
            try simp only [Act.put, List.setIfInBounds_toArray, List.set_cons_zero, List.set_cons_succ]
            refine wpAnyH_take (i := 5) (v := ?_) rfl (by kernel_rfl) (by kernel_rfl) (by kernel_rfl) (fun _ _ _ h => h) (Or.inl ⟨by rfl, ?_⟩) (by assumption) ?_
            rotate_left
            · intro W hSW
              (try dsimp only at hSW)
              obtain ⟨⟨z0, z1, z2⟩, z3⟩ := hSW
              go_simp
              try with_reducible rfl
            try simp only [Act.put, List.setIfInBounds_toArray, List.set_cons_zero, List.set_cons_succ]
            refine wpAnyH_take (i := 10) (v := ?_) rfl (by kernel_rfl) (by kernel_rfl) (by kernel_rfl) (fun _ _ _ h => h) (Or.inl ⟨by rfl, ?_⟩) (by assumption) ?_
            rotate_left
            · intro W hSW
              (try dsimp only at hSW)
              obtain ⟨⟨z0, z1, z2⟩, z3⟩ := hSW
              go_simp
              try with_reducible rfl
            try simp only [Act.put, List.setIfInBounds_toArray, List.set_cons_zero, List.set_cons_succ]
            refine wpAnyH_take (i := 11) (v := ?_) rfl (by kernel_rfl) (by kernel_rfl) (by kernel_rfl) (fun _ _ _ h => h) (Or.inl ⟨by rfl, ?_⟩) (by assumption) ?_
            rotate_left
            · intro W hSW
              (try dsimp only at hSW)
              obtain ⟨⟨z0, z1, z2⟩, z3⟩ := hSW
              go_simp
              try with_reducible rfl
            try simp only [Act.put, List.setIfInBounds_toArray, List.set_cons_zero, List.set_cons_succ]
            refine wpAnyH_done (by kernel_rfl) ?_ _
            have HOW := Lib.hid (own_below HO.out (show Below wr.heap.size wr (w5.alloc (.cells #[.string ⟨#[43]⟩, .string ⟨#[45]⟩] 9)) from bl_call (bl_alloc (Below.refl _ wr) (.cells #[.int .i64 4, .int .i64 l[k].slot, .complex .f64 l[k].re l[k].im] 43)) (by repeat (first | exact Below.refl _ _ | assumption | refine bl_drew ?_ | refine bl_alloc ?_ _ | refine bl_call ?_ (by assumption)))))
            have HBW := Lib.hid (show Below w.heap.size w (w5.alloc (.cells #[.string ⟨#[43]⟩, .string ⟨#[45]⟩] 9)) from bl_call HB2.out (by repeat (first | exact Below.refl _ _ | assumption | refine bl_drew ?_ | refine bl_alloc ?_ _ | refine bl_call ?_ (by assumption))))
            have hsW := HBW.out.size
            go_wp2_with (first | (at_builtin; refine wpList_append_lies _ rfl (.tmp 98) (.tmp 102) 40 rfl w.heap.size 49 i0 (.agg #[.string ⟨#[]⟩, .int .i64 0]) 2 24 Tryd.underlying40 hi hz0 hz1 hz2 rfl (by decide) _ _ _ rfl (HOW.out.alloc _) ⟨_, 0, none⟩ 1 1 ([.string ((⟨#[45]⟩ : ByteArray) ++ ⟨(ins 4 a.txt a.str).toArray⟩), .int .i64 (stg 4 : Int)]) rfl rfl ?c1 ?c2 (by decide) ?c3 ?c4 ?c5 _ rfl ?_))
            case c1 => exact wt_news2 _ _ _ _ (by first | rfl | (rw [World.size_alloc]; done) | (simp; done))
            case c2 => exact wt_one2 _ _ rfl rfl
            case c3 => unfold maxLen; omega
            case c4 => omega
            case c5 => first | (rw [World.size_alloc]; omega) | exact (bl_alloc HBW.out _).size
            · intro g' cap' w9 hown' hgrow _ _
              have HN := Lib.hid (HNX.out (.one l[k] a) HTO.out HTF.out _ _ _ _ _ _ _ _ HBW.out rfl (by rw [HXS.out]) hown' hgrow HROW.out)
              clear hown' hgrow
              go_wp2
              case roundEnd => exact HN.out
      · obtain ⟨a, rfl⟩ : ∃ a, ops = [a] := List.length_eq_one_iff.1 (by rw [hops, hkk]; rfl)
        rw [hkk] at x0
        have HKK := Lib.hid hkk
        have HAR := Lib.hid (show ar 5 = 1 from rfl)
        obtain ⟨hs0, hre, him⟩ : l[k].slot = 0 ∧ l[k].re = 0 ∧ l[k].im = 0 := by rcases hgx with ⟨h, _⟩ | ⟨h, _⟩ | ⟨_, a, b, c⟩ <;> first | exact ⟨a, b, c⟩ | omega
        have HX := Lib.hid (nd_op hs0 hre him)
        have hta := HOK.out a (by simp)
        have HTO := Lib.hid (show TOk (.one l[k] a) from TOk.one (by omega) (nd_op hs0 hre him) hta)
        have HTF := Lib.hid (show (Ex.one l[k] a).flat = ([a] : List Ex).flatMap Ex.flat ++ [l[k]] by show a.flat ++ [l[k]] = _; simp)
        have hfl60 : a.flat.length ≤ 60 := by
          have h1 := flat_le (a := a) (ts := s0 ++ [a]) (by simp)
          rw [HFL.out, List.length_take] at h1
          omega
        have htl : a.txt.length ≤ 1000000 := by have := hta.2; omega
        have HB2 := Lib.hid (bl_alloc HB.out (.cells #[.int .i64 5, .int .i64 l[k].slot, .complex .f64 l[k].re l[k].im] 43))
        clear hgx hops hre him hs0
        obtain ⟨gs, cs, hvs⟩ := Joins.ownsRow_form hown (by simp)
        subst hvs
        have hcs := own_cap2 hown
        have hcs2 : s0.length + 1 ≤ cs := by simpa using hcs
        have hgl : gs < wr.heap.size := (hown.lt gs rfl).2
        have r0 : wr.cell? ⟨gs, s0.length * 2, none⟩ = some (tx a.txt) := by simpa using wt_cell hown 0 (tx a.txt) rfl
        have r1 : wr.cell? ⟨gs, s0.length * 2 + 1, none⟩ = some (.int .i64 (a.str : Int)) := by simpa using wt_cell hown 1 (.int .i64 (a.str : Int)) rfl
        have HO : Hid (wr.ownsRow w.heap.size 49 2 (.slice (some ⟨gs, 0, none⟩) s0.length cs) s0.length (s0.flatMap wtCells)) := Lib.hid (by
          have h1 := hown
          rw [show (s0 ++ [a]).length = s0.length + 1 by simp] at h1
          have h2 := own_take2 h1 (k := s0.length) (by omega)
          rwa [wt_take] at h2)
        have HROW := Lib.hid (fun j (hj : (Value.slice (some ⟨gs, 0, none⟩) s0.length cs).ownBlock = some j) => (HO.out.lt j hj).1)
        have HXS : Hid (([.string (((⟨#[99, 111, 110, 106, 40]⟩ : ByteArray) ++ ⟨a.txt.toArray⟩) ++ ⟨#[41]⟩), .int .i64 (stg 5 : Int)] : List Value) = wtCells (.one l[k] a)) := Lib.hid (by
          have h1 : (Ex.one l[k] a).txt = [99, 111, 110, 106, 40] ++ (a.txt ++ [41]) := by
            show (if l[k].kind = 3 then 43 :: ins 4 a.txt a.str else if l[k].kind = 4 then 45 :: ins 4 a.txt a.str else wordT l[k].kind ++ (a.txt ++ [41])) = _
            rw [hkk]; rfl
          have h2 : (Ex.one l[k] a).str = stg 5 := by show stg l[k].kind = _; rw [hkk]
          show _ = [tx (Ex.one l[k] a).txt, .int .i64 ((Ex.one l[k] a).str : Int)]
          rw [h1, h2, ← List.append_assoc, tx, ← cat, ← cat])
        have hwr0 : IntKind.i64.wrap 0 = 0 := by decide
        have hwr1 : IntKind.i64.wrap 1 = 1 := by decide
        have hwr2 : IntKind.i64.wrap 2 = 2 := by decide
        have g1 : (9223372036854775807 < 5 + a.txt.length) = False := eq_false (by omega)
        have g2 : (9223372036854775807 < 5 + a.txt.length + 1) = False := eq_false (by omega)
        clear hown hkk
        go_wp2_with (first | (go_at_call 18; (with_reducible refine (strength_is 5 (by omega) _).mono ?_); rintro e w9 ⟨rfl, hw9⟩; have hw9x := hw9.symm; clear hw9; subst hw9x) | (go_at_call 19; (with_reducible refine (operands_is 5 1 _ HAR.out).mono ?_); rintro e w9 ⟨rfl, hw9⟩; have hw9x := hw9.symm; clear hw9; subst hw9x))
        have HBX := Lib.hid (Blk.new wr 43 #[.int .i64 5, .int .i64 l[k].slot, .complex .f64 l[k].re l[k].im])
        have b0 := HBX.out.cell 0
        have HS : Hid (∀ W, Below (wr.alloc (.cells #[.int .i64 5, .int .i64 l[k].slot, .complex .f64 l[k].re l[k].im] 43)).heap.size (wr.alloc (.cells #[.int .i64 5, .int .i64 l[k].slot, .complex .f64 l[k].re l[k].im] 43)) W → (W.cell? ⟨wr.heap.size, 0, none⟩ = some (.int .i64 5) ∧ W.cell? ⟨gs, s0.length * 2, none⟩ = some (tx a.txt) ∧ W.cell? ⟨gs, s0.length * 2 + 1, none⟩ = some (.int .i64 (a.str : Int)))) := Lib.hid fun W hW => ⟨lit_on b0 hW, lit_on (lit_on r0 (bl_alloc (Below.refl _ _) _)) hW, lit_on (lit_on r1 (bl_alloc (Below.refl _ _) _)) hW⟩
        clear r0 r1
        go_upto_region 22 with fail
        refine wp_region_held_drew (S := fun W => W.cell? ⟨wr.heap.size, 0, none⟩ = some (.int .i64 5) ∧ W.cell? ⟨gs, s0.length * 2, none⟩ = some (tx a.txt) ∧ W.cell? ⟨gs, s0.length * 2 + 1, none⟩ = some (.int .i64 (a.str : Int))) (by kernel_rfl) ?_ (fun hHeld => ?_)
        · exact HS.out _ (by repeat (first | exact Below.refl _ _ | assumption | refine bl_drew ?_ | refine bl_alloc ?_ _ | refine bl_call ?_ (by assumption)))
        refine wpAnyH_take (i := 1) (v := ?_) rfl (by kernel_rfl) (by kernel_rfl) (by kernel_rfl) (fun _ _ _ h => h) (Or.inl ⟨by rfl, ?_⟩) (by assumption) ?_
        rotate_left
        · intro W hSW
          (try dsimp only at hSW)
          obtain ⟨z0, z1, z2⟩ := hSW
          go_simp
          try with_reducible rfl
        try simp only [Act.put, List.setIfInBounds_toArray, List.set_cons_zero, List.set_cons_succ]
        refine wpAnyH_take (i := 2) (v := ?_) rfl (by kernel_rfl) (by kernel_rfl) (by kernel_rfl) (fun _ _ _ h => h) (Or.inl ⟨by rfl, ?_⟩) (by assumption) ?_
        rotate_left
        · intro W hSW
          (try dsimp only at hSW)
          obtain ⟨z0, z1, z2⟩ := hSW
          go_simp
          try with_reducible rfl
        try simp only [Act.put, List.setIfInBounds_toArray, List.set_cons_zero, List.set_cons_succ]
        refine wpAnyH_take (i := 3) (v := ?_) rfl (by kernel_rfl) (by kernel_rfl) (by kernel_rfl) (fun _ _ _ h => h) (Or.inl ⟨by rfl, ?_⟩) (by assumption) ?_
        rotate_left
        · intro W hSW
          (try dsimp only at hSW)
          obtain ⟨z0, z1, z2⟩ := hSW
          go_simp
          try with_reducible rfl
        try simp only [Act.put, List.setIfInBounds_toArray, List.set_cons_zero, List.set_cons_succ]
        refine wpAnyH_take (i := 6) (v := ?_) rfl (by kernel_rfl) (by kernel_rfl) (by kernel_rfl) (fun _ _ _ h => h) (Or.inl ⟨by rfl, ?_⟩) (by assumption) ?_
        rotate_left
        · intro W hSW
          (try dsimp only at hSW)
          obtain ⟨z0, z1, z2⟩ := hSW
          go_simp
          try with_reducible rfl
        try simp only [Act.put, List.setIfInBounds_toArray, List.set_cons_zero, List.set_cons_succ]
        refine wpAnyH_take (i := 7) (v := ?_) rfl (by kernel_rfl) (by kernel_rfl) (by kernel_rfl) (fun _ _ _ h => h) (Or.inl ⟨by rfl, ?_⟩) (by assumption) ?_
        rotate_left
        · intro W hSW
          (try dsimp only at hSW)
          obtain ⟨z0, z1, z2⟩ := hSW
          go_simp
          try with_reducible rfl
        try simp only [Act.put, List.setIfInBounds_toArray, List.set_cons_zero, List.set_cons_succ]
        refine wpAnyH_take (i := 8) (v := ?_) rfl (by kernel_rfl) (by kernel_rfl) (by kernel_rfl) (fun _ _ _ h => h) (Or.inl ⟨by rfl, ?_⟩) (by assumption) ?_
        rotate_left
        · intro W hSW
          (try dsimp only at hSW)
          obtain ⟨z0, z1, z2⟩ := hSW
          go_simp
          try with_reducible rfl
        try simp only [Act.put, List.setIfInBounds_toArray, List.set_cons_zero, List.set_cons_succ]
        refine wpAnyH_take (i := 9) (v := ?_) rfl (by kernel_rfl) (by kernel_rfl) (by kernel_rfl) (fun _ _ _ h => h) (Or.inl ⟨by rfl, ?_⟩) (by assumption) ?_
        rotate_left
        · intro W hSW
          (try dsimp only at hSW)
          obtain ⟨z0, z1, z2⟩ := hSW
          go_simp
          try with_reducible rfl
        try simp only [Act.put, List.setIfInBounds_toArray, List.set_cons_zero, List.set_cons_succ]
        refine wpAnyH_ready (rs := [0]) (by kernel_rfl) (by simp) ?_
        refine AllReadyH.cons rfl (fun K hK => ?_) (AllReadyH.nil)
        · go_simp
          refine hK.out _ _ ?_ (fun hHeld => ?_)
          · exact HS.out _ (by repeat (first | exact Below.refl _ _ | assumption | refine bl_drew ?_ | refine bl_alloc ?_ _ | refine bl_call ?_ (by assumption)))
          clear hK K
          try simp only [Act.put, List.setIfInBounds_toArray, List.set_cons_zero, List.set_cons_succ]
          refine wpAnyH_more (S' := fun W => (W.cell? ⟨wr.heap.size, 0, none⟩ = some (.int .i64 5) ∧ W.cell? ⟨gs, s0.length * 2, none⟩ = some (tx a.txt) ∧ W.cell? ⟨gs, s0.length * 2 + 1, none⟩ = some (.int .i64 (a.str : Int))) ∧ W.cell? ⟨wr.heap.size + 1, 0, none⟩ = some (.string ⟨#[99, 111, 110, 106, 40]⟩)) (fun _ h => h.1) ?_ (fun hHeld2 => ?_)
          · exact ⟨hHeld, (Blk.new_at (wr.alloc (.cells #[.int .i64 5, .int .i64 l[k].slot, .complex .f64 l[k].re l[k].im] 43)) 9 #[.string ⟨#[99, 111, 110, 106, 40]⟩, .string ⟨#[114, 101, 40]⟩, .string ⟨#[105, 109, 40]⟩] (g := wr.heap.size + 1) (by first | rfl | (rw [World.size_alloc]; done) | (simp; done))).cell 0⟩
          have hLit := hHeld2.2
          refine wpAnyH_take (i := 4) (v := ?_) rfl (by kernel_rfl) (by kernel_rfl) (by kernel_rfl) (fun _ _ _ h => h) (Or.inl ⟨by rfl, ?_⟩) (by assumption) ?_
          rotate_left
          · intro W hSW
            (try dsimp only at hSW)
            obtain ⟨⟨z0, z1, z2⟩, z3⟩ := hSW
            go_simp
            try with_reducible rfl
          try simp only [Act.put, List.setIfInBounds_toArray, List.set_cons_zero, List.set_cons_succ]
          refine wpAnyH_take (i := 5) (v := ?_) rfl (by kernel_rfl) (by kernel_rfl) (by kernel_rfl) (fun _ _ _ h => h) (Or.inl ⟨by rfl, ?_⟩) (by assumption) ?_
          rotate_left
          · intro W hSW
            (try dsimp only at hSW)
            obtain ⟨⟨z0, z1, z2⟩, z3⟩ := hSW
            go_simp
            try with_reducible rfl
          try simp only [Act.put, List.setIfInBounds_toArray, List.set_cons_zero, List.set_cons_succ]
          refine wpAnyH_take (i := 10) (v := ?_) rfl (by kernel_rfl) (by kernel_rfl) (by kernel_rfl) (fun _ _ _ h => h) (Or.inl ⟨by rfl, ?_⟩) (by assumption) ?_
          rotate_left
          · intro W hSW
            (try dsimp only at hSW)
            obtain ⟨⟨z0, z1, z2⟩, z3⟩ := hSW
            go_simp
            try with_reducible rfl
          try simp only [Act.put, List.setIfInBounds_toArray, List.set_cons_zero, List.set_cons_succ]
          refine wpAnyH_take (i := 11) (v := ?_) rfl (by kernel_rfl) (by kernel_rfl) (by kernel_rfl) (fun _ _ _ h => h) (Or.inl ⟨by rfl, ?_⟩) (by assumption) ?_
          rotate_left
          · intro W hSW
            (try dsimp only at hSW)
            obtain ⟨⟨z0, z1, z2⟩, z3⟩ := hSW
            go_simp
            try with_reducible rfl
          try simp only [Act.put, List.setIfInBounds_toArray, List.set_cons_zero, List.set_cons_succ]
          refine wpAnyH_take (i := 12) (v := ?_) rfl (by kernel_rfl) (by kernel_rfl) (by kernel_rfl) (fun _ _ _ h => h) (Or.inl ⟨by rfl, ?_⟩) (by assumption) ?_
          rotate_left
          · intro W hSW
            (try dsimp only at hSW)
            obtain ⟨⟨z0, z1, z2⟩, z3⟩ := hSW
            go_simp
            try with_reducible rfl
          try simp only [Act.put, List.setIfInBounds_toArray, List.set_cons_zero, List.set_cons_succ]
          refine wpAnyH_done (by kernel_rfl) ?_ _
          have HOW := Lib.hid (own_below HO.out (show Below wr.heap.size wr ((wr.alloc (.cells #[.int .i64 5, .int .i64 l[k].slot, .complex .f64 l[k].re l[k].im] 43)).alloc (.cells #[.string ⟨#[99, 111, 110, 106, 40]⟩, .string ⟨#[114, 101, 40]⟩, .string ⟨#[105, 109, 40]⟩] 9)).drew from bl_call (bl_alloc (Below.refl _ wr) (.cells #[.int .i64 5, .int .i64 l[k].slot, .complex .f64 l[k].re l[k].im] 43)) (by repeat (first | exact Below.refl _ _ | assumption | refine bl_drew ?_ | refine bl_alloc ?_ _ | refine bl_call ?_ (by assumption)))))
          have HBW := Lib.hid (show Below w.heap.size w ((wr.alloc (.cells #[.int .i64 5, .int .i64 l[k].slot, .complex .f64 l[k].re l[k].im] 43)).alloc (.cells #[.string ⟨#[99, 111, 110, 106, 40]⟩, .string ⟨#[114, 101, 40]⟩, .string ⟨#[105, 109, 40]⟩] 9)).drew from bl_call HB2.out (by repeat (first | exact Below.refl _ _ | assumption | refine bl_drew ?_ | refine bl_alloc ?_ _ | refine bl_call ?_ (by assumption))))
          have hsW := HBW.out.size
          go_wp2_with (first | (at_builtin; refine wpList_append_lies _ rfl (.tmp 98) (.tmp 102) 40 rfl w.heap.size 49 i0 (.agg #[.string ⟨#[]⟩, .int .i64 0]) 2 24 Tryd.underlying40 hi hz0 hz1 hz2 rfl (by decide) _ _ _ rfl (HOW.out.alloc _) ⟨_, 0, none⟩ 1 1 ([.string (((⟨#[99, 111, 110, 106, 40]⟩ : ByteArray) ++ ⟨a.txt.toArray⟩) ++ ⟨#[41]⟩), .int .i64 (stg 5 : Int)]) rfl rfl ?c1 ?c2 (by decide) ?c3 ?c4 ?c5 _ rfl ?_))
          case c1 => exact wt_news2 _ _ _ _ (by first | rfl | (rw [World.size_alloc]; done) | (simp; done))
          case c2 => exact wt_one2 _ _ rfl rfl
          case c3 => unfold maxLen; omega
          case c4 => omega
          case c5 => first | (rw [World.size_alloc]; omega) | exact (bl_alloc HBW.out _).size
          · intro g' cap' w9 hown' hgrow _ _
            have HN := Lib.hid (HNX.out (.one l[k] a) HTO.out HTF.out _ _ _ _ _ _ _ _ HBW.out rfl (by rw [HXS.out]) hown' hgrow HROW.out)
            clear hown' hgrow
            go_wp2
            case roundEnd => exact HN.out
      · obtain ⟨a, rfl⟩ : ∃ a, ops = [a] := List.length_eq_one_iff.1 (by rw [hops, hkk]; rfl)
        rw [hkk] at x0
        have HKK := Lib.hid hkk
        have HAR := Lib.hid (show ar 6 = 1 from rfl)
        obtain ⟨hs0, hre, him⟩ : l[k].slot = 0 ∧ l[k].re = 0 ∧ l[k].im = 0 := by rcases hgx with ⟨h, _⟩ | ⟨h, _⟩ | ⟨_, a, b, c⟩ <;> first | exact ⟨a, b, c⟩ | omega
        have HX := Lib.hid (nd_op hs0 hre him)
        have hta := HOK.out a (by simp)
        have HTO := Lib.hid (show TOk (.one l[k] a) from TOk.one (by omega) (nd_op hs0 hre him) hta)
        have HTF := Lib.hid (show (Ex.one l[k] a).flat = ([a] : List Ex).flatMap Ex.flat ++ [l[k]] by show a.flat ++ [l[k]] = _; simp)
        have hfl60 : a.flat.length ≤ 60 := by
          have h1 := flat_le (a := a) (ts := s0 ++ [a]) (by simp)
          rw [HFL.out, List.length_take] at h1
          omega
        have htl : a.txt.length ≤ 1000000 := by have := hta.2; omega
        have HB2 := Lib.hid (bl_alloc HB.out (.cells #[.int .i64 6, .int .i64 l[k].slot, .complex .f64 l[k].re l[k].im] 43))
        clear hgx hops hre him hs0
        obtain ⟨gs, cs, hvs⟩ := Joins.ownsRow_form hown (by simp)
        subst hvs
        have hcs := own_cap2 hown
        have hcs2 : s0.length + 1 ≤ cs := by simpa using hcs
        have hgl : gs < wr.heap.size := (hown.lt gs rfl).2
        have r0 : wr.cell? ⟨gs, s0.length * 2, none⟩ = some (tx a.txt) := by simpa using wt_cell hown 0 (tx a.txt) rfl
        have r1 : wr.cell? ⟨gs, s0.length * 2 + 1, none⟩ = some (.int .i64 (a.str : Int)) := by simpa using wt_cell hown 1 (.int .i64 (a.str : Int)) rfl
        have HO : Hid (wr.ownsRow w.heap.size 49 2 (.slice (some ⟨gs, 0, none⟩) s0.length cs) s0.length (s0.flatMap wtCells)) := Lib.hid (by
          have h1 := hown
          rw [show (s0 ++ [a]).length = s0.length + 1 by simp] at h1
          have h2 := own_take2 h1 (k := s0.length) (by omega)
          rwa [wt_take] at h2)
        have HROW := Lib.hid (fun j (hj : (Value.slice (some ⟨gs, 0, none⟩) s0.length cs).ownBlock = some j) => (HO.out.lt j hj).1)
        have HXS : Hid (([.string (((⟨#[114, 101, 40]⟩ : ByteArray) ++ ⟨a.txt.toArray⟩) ++ ⟨#[41]⟩), .int .i64 (stg 6 : Int)] : List Value) = wtCells (.one l[k] a)) := Lib.hid (by
          have h1 : (Ex.one l[k] a).txt = [114, 101, 40] ++ (a.txt ++ [41]) := by
            show (if l[k].kind = 3 then 43 :: ins 4 a.txt a.str else if l[k].kind = 4 then 45 :: ins 4 a.txt a.str else wordT l[k].kind ++ (a.txt ++ [41])) = _
            rw [hkk]; rfl
          have h2 : (Ex.one l[k] a).str = stg 6 := by show stg l[k].kind = _; rw [hkk]
          show _ = [tx (Ex.one l[k] a).txt, .int .i64 ((Ex.one l[k] a).str : Int)]
          rw [h1, h2, ← List.append_assoc, tx, ← cat, ← cat])
        have hwr0 : IntKind.i64.wrap 0 = 0 := by decide
        have hwr1 : IntKind.i64.wrap 1 = 1 := by decide
        have hwr2 : IntKind.i64.wrap 2 = 2 := by decide
        have g1 : (9223372036854775807 < 3 + a.txt.length) = False := eq_false (by omega)
        have g2 : (9223372036854775807 < 3 + a.txt.length + 1) = False := eq_false (by omega)
        clear hown hkk
        go_wp2_with (first | (go_at_call 18; (with_reducible refine (strength_is 6 (by omega) _).mono ?_); rintro e w9 ⟨rfl, hw9⟩; have hw9x := hw9.symm; clear hw9; subst hw9x) | (go_at_call 19; (with_reducible refine (operands_is 6 1 _ HAR.out).mono ?_); rintro e w9 ⟨rfl, hw9⟩; have hw9x := hw9.symm; clear hw9; subst hw9x))
        have HBX := Lib.hid (Blk.new wr 43 #[.int .i64 6, .int .i64 l[k].slot, .complex .f64 l[k].re l[k].im])
        have b0 := HBX.out.cell 0
        have HS : Hid (∀ W, Below (wr.alloc (.cells #[.int .i64 6, .int .i64 l[k].slot, .complex .f64 l[k].re l[k].im] 43)).heap.size (wr.alloc (.cells #[.int .i64 6, .int .i64 l[k].slot, .complex .f64 l[k].re l[k].im] 43)) W → (W.cell? ⟨wr.heap.size, 0, none⟩ = some (.int .i64 6) ∧ W.cell? ⟨gs, s0.length * 2, none⟩ = some (tx a.txt) ∧ W.cell? ⟨gs, s0.length * 2 + 1, none⟩ = some (.int .i64 (a.str : Int)))) := Lib.hid fun W hW => ⟨lit_on b0 hW, lit_on (lit_on r0 (bl_alloc (Below.refl _ _) _)) hW, lit_on (lit_on r1 (bl_alloc (Below.refl _ _) _)) hW⟩
        clear r0 r1
        go_upto_region 22 with fail
        refine wp_region_held_drew (S := fun W => W.cell? ⟨wr.heap.size, 0, none⟩ = some (.int .i64 6) ∧ W.cell? ⟨gs, s0.length * 2, none⟩ = some (tx a.txt) ∧ W.cell? ⟨gs, s0.length * 2 + 1, none⟩ = some (.int .i64 (a.str : Int))) (by kernel_rfl) ?_ (fun hHeld => ?_)
        · exact HS.out _ (by repeat (first | exact Below.refl _ _ | assumption | refine bl_drew ?_ | refine bl_alloc ?_ _ | refine bl_call ?_ (by assumption)))
        refine wpAnyH_take (i := 1) (v := ?_) rfl (by kernel_rfl) (by kernel_rfl) (by kernel_rfl) (fun _ _ _ h => h) (Or.inl ⟨by rfl, ?_⟩) (by assumption) ?_
        rotate_left
        · intro W hSW
          (try dsimp only at hSW)
          obtain ⟨z0, z1, z2⟩ := hSW
          go_simp
          try with_reducible rfl
        try simp only [Act.put, List.setIfInBounds_toArray, List.set_cons_zero, List.set_cons_succ]
        refine wpAnyH_take (i := 2) (v := ?_) rfl (by kernel_rfl) (by kernel_rfl) (by kernel_rfl) (fun _ _ _ h => h) (Or.inl ⟨by rfl, ?_⟩) (by assumption) ?_
        rotate_left
        · intro W hSW
          (try dsimp only at hSW)
          obtain ⟨z0, z1, z2⟩ := hSW
          go_simp
          try with_reducible rfl
        try simp only [Act.put, List.setIfInBounds_toArray, List.set_cons_zero, List.set_cons_succ]
        refine wpAnyH_take (i := 3) (v := ?_) rfl (by kernel_rfl) (by kernel_rfl) (by kernel_rfl) (fun _ _ _ h => h) (Or.inl ⟨by rfl, ?_⟩) (by assumption) ?_
        rotate_left
        · intro W hSW
          (try dsimp only at hSW)
          obtain ⟨z0, z1, z2⟩ := hSW
          go_simp
          try with_reducible rfl
        try simp only [Act.put, List.setIfInBounds_toArray, List.set_cons_zero, List.set_cons_succ]
        refine wpAnyH_take (i := 6) (v := ?_) rfl (by kernel_rfl) (by kernel_rfl) (by kernel_rfl) (fun _ _ _ h => h) (Or.inl ⟨by rfl, ?_⟩) (by assumption) ?_
        rotate_left
        · intro W hSW
          (try dsimp only at hSW)
          obtain ⟨z0, z1, z2⟩ := hSW
          go_simp
          try with_reducible rfl
        try simp only [Act.put, List.setIfInBounds_toArray, List.set_cons_zero, List.set_cons_succ]
        refine wpAnyH_take (i := 7) (v := ?_) rfl (by kernel_rfl) (by kernel_rfl) (by kernel_rfl) (fun _ _ _ h => h) (Or.inl ⟨by rfl, ?_⟩) (by assumption) ?_
        rotate_left
        · intro W hSW
          (try dsimp only at hSW)
          obtain ⟨z0, z1, z2⟩ := hSW
          go_simp
          try with_reducible rfl
        try simp only [Act.put, List.setIfInBounds_toArray, List.set_cons_zero, List.set_cons_succ]
        refine wpAnyH_take (i := 8) (v := ?_) rfl (by kernel_rfl) (by kernel_rfl) (by kernel_rfl) (fun _ _ _ h => h) (Or.inl ⟨by rfl, ?_⟩) (by assumption) ?_
        rotate_left
        · intro W hSW
          (try dsimp only at hSW)
          obtain ⟨z0, z1, z2⟩ := hSW
          go_simp
          try with_reducible rfl
        try simp only [Act.put, List.setIfInBounds_toArray, List.set_cons_zero, List.set_cons_succ]
        refine wpAnyH_take (i := 9) (v := ?_) rfl (by kernel_rfl) (by kernel_rfl) (by kernel_rfl) (fun _ _ _ h => h) (Or.inl ⟨by rfl, ?_⟩) (by assumption) ?_
        rotate_left
        · intro W hSW
          (try dsimp only at hSW)
          obtain ⟨z0, z1, z2⟩ := hSW
          go_simp
          try with_reducible rfl
        try simp only [Act.put, List.setIfInBounds_toArray, List.set_cons_zero, List.set_cons_succ]
        refine wpAnyH_ready (rs := [0]) (by kernel_rfl) (by simp) ?_
        refine AllReadyH.cons rfl (fun K hK => ?_) (AllReadyH.nil)
        · go_simp
          refine hK.out _ _ ?_ (fun hHeld => ?_)
          · exact HS.out _ (by repeat (first | exact Below.refl _ _ | assumption | refine bl_drew ?_ | refine bl_alloc ?_ _ | refine bl_call ?_ (by assumption)))
          clear hK K
          try simp only [Act.put, List.setIfInBounds_toArray, List.set_cons_zero, List.set_cons_succ]
          refine wpAnyH_more (S' := fun W => (W.cell? ⟨wr.heap.size, 0, none⟩ = some (.int .i64 6) ∧ W.cell? ⟨gs, s0.length * 2, none⟩ = some (tx a.txt) ∧ W.cell? ⟨gs, s0.length * 2 + 1, none⟩ = some (.int .i64 (a.str : Int))) ∧ W.cell? ⟨wr.heap.size + 1, 1, none⟩ = some (.string ⟨#[114, 101, 40]⟩)) (fun _ h => h.1) ?_ (fun hHeld2 => ?_)
          · exact ⟨hHeld, (Blk.new_at (wr.alloc (.cells #[.int .i64 6, .int .i64 l[k].slot, .complex .f64 l[k].re l[k].im] 43)) 9 #[.string ⟨#[99, 111, 110, 106, 40]⟩, .string ⟨#[114, 101, 40]⟩, .string ⟨#[105, 109, 40]⟩] (g := wr.heap.size + 1) (by first | rfl | (rw [World.size_alloc]; done) | (simp; done))).cell 1⟩
          have hLit := hHeld2.2
          refine wpAnyH_take (i := 4) (v := ?_) rfl (by kernel_rfl) (by kernel_rfl) (by kernel_rfl) (fun _ _ _ h => h) (Or.inl ⟨by rfl, ?_⟩) (by assumption) ?_
          rotate_left
          · intro W hSW
            (try dsimp only at hSW)
            obtain ⟨⟨z0, z1, z2⟩, z3⟩ := hSW
            go_simp
            try with_reducible rfl
          try simp only [Act.put, List.setIfInBounds_toArray, List.set_cons_zero, List.set_cons_succ]
          refine wpAnyH_take (i := 5) (v := ?_) rfl (by kernel_rfl) (by kernel_rfl) (by kernel_rfl) (fun _ _ _ h => h) (Or.inl ⟨by rfl, ?_⟩) (by assumption) ?_
          rotate_left
          · intro W hSW
            (try dsimp only at hSW)
            obtain ⟨⟨z0, z1, z2⟩, z3⟩ := hSW
            go_simp
            try with_reducible rfl
          try simp only [Act.put, List.setIfInBounds_toArray, List.set_cons_zero, List.set_cons_succ]
          refine wpAnyH_take (i := 10) (v := ?_) rfl (by kernel_rfl) (by kernel_rfl) (by kernel_rfl) (fun _ _ _ h => h) (Or.inl ⟨by rfl, ?_⟩) (by assumption) ?_
          rotate_left
          · intro W hSW
            (try dsimp only at hSW)
            obtain ⟨⟨z0, z1, z2⟩, z3⟩ := hSW
            go_simp
            try with_reducible rfl
          try simp only [Act.put, List.setIfInBounds_toArray, List.set_cons_zero, List.set_cons_succ]
          refine wpAnyH_take (i := 11) (v := ?_) rfl (by kernel_rfl) (by kernel_rfl) (by kernel_rfl) (fun _ _ _ h => h) (Or.inl ⟨by rfl, ?_⟩) (by assumption) ?_
          rotate_left
          · intro W hSW
            (try dsimp only at hSW)
            obtain ⟨⟨z0, z1, z2⟩, z3⟩ := hSW
            go_simp
            try with_reducible rfl
          try simp only [Act.put, List.setIfInBounds_toArray, List.set_cons_zero, List.set_cons_succ]
          refine wpAnyH_take (i := 12) (v := ?_) rfl (by kernel_rfl) (by kernel_rfl) (by kernel_rfl) (fun _ _ _ h => h) (Or.inl ⟨by rfl, ?_⟩) (by assumption) ?_
          rotate_left
          · intro W hSW
            (try dsimp only at hSW)
            obtain ⟨⟨z0, z1, z2⟩, z3⟩ := hSW
            go_simp
            try with_reducible rfl
          try simp only [Act.put, List.setIfInBounds_toArray, List.set_cons_zero, List.set_cons_succ]
          refine wpAnyH_done (by kernel_rfl) ?_ _
          have HOW := Lib.hid (own_below HO.out (show Below wr.heap.size wr ((wr.alloc (.cells #[.int .i64 6, .int .i64 l[k].slot, .complex .f64 l[k].re l[k].im] 43)).alloc (.cells #[.string ⟨#[99, 111, 110, 106, 40]⟩, .string ⟨#[114, 101, 40]⟩, .string ⟨#[105, 109, 40]⟩] 9)).drew from bl_call (bl_alloc (Below.refl _ wr) (.cells #[.int .i64 6, .int .i64 l[k].slot, .complex .f64 l[k].re l[k].im] 43)) (by repeat (first | exact Below.refl _ _ | assumption | refine bl_drew ?_ | refine bl_alloc ?_ _ | refine bl_call ?_ (by assumption)))))
          have HBW := Lib.hid (show Below w.heap.size w ((wr.alloc (.cells #[.int .i64 6, .int .i64 l[k].slot, .complex .f64 l[k].re l[k].im] 43)).alloc (.cells #[.string ⟨#[99, 111, 110, 106, 40]⟩, .string ⟨#[114, 101, 40]⟩, .string ⟨#[105, 109, 40]⟩] 9)).drew from bl_call HB2.out (by repeat (first | exact Below.refl _ _ | assumption | refine bl_drew ?_ | refine bl_alloc ?_ _ | refine bl_call ?_ (by assumption))))
          have hsW := HBW.out.size
          go_wp2_with (first | (at_builtin; refine wpList_append_lies _ rfl (.tmp 98) (.tmp 102) 40 rfl w.heap.size 49 i0 (.agg #[.string ⟨#[]⟩, .int .i64 0]) 2 24 Tryd.underlying40 hi hz0 hz1 hz2 rfl (by decide) _ _ _ rfl (HOW.out.alloc _) ⟨_, 0, none⟩ 1 1 ([.string (((⟨#[114, 101, 40]⟩ : ByteArray) ++ ⟨a.txt.toArray⟩) ++ ⟨#[41]⟩), .int .i64 (stg 6 : Int)]) rfl rfl ?c1 ?c2 (by decide) ?c3 ?c4 ?c5 _ rfl ?_))
          case c1 => exact wt_news2 _ _ _ _ (by first | rfl | (rw [World.size_alloc]; done) | (simp; done))
          case c2 => exact wt_one2 _ _ rfl rfl
          case c3 => unfold maxLen; omega
          case c4 => omega
          case c5 => first | (rw [World.size_alloc]; omega) | exact (bl_alloc HBW.out _).size
          · intro g' cap' w9 hown' hgrow _ _
            have HN := Lib.hid (HNX.out (.one l[k] a) HTO.out HTF.out _ _ _ _ _ _ _ _ HBW.out rfl (by rw [HXS.out]) hown' hgrow HROW.out)
            clear hown' hgrow
            go_wp2
            case roundEnd => exact HN.out
      · obtain ⟨a, rfl⟩ : ∃ a, ops = [a] := List.length_eq_one_iff.1 (by rw [hops, hkk]; rfl)
        rw [hkk] at x0
        have HKK := Lib.hid hkk
        have HAR := Lib.hid (show ar 7 = 1 from rfl)
        obtain ⟨hs0, hre, him⟩ : l[k].slot = 0 ∧ l[k].re = 0 ∧ l[k].im = 0 := by rcases hgx with ⟨h, _⟩ | ⟨h, _⟩ | ⟨_, a, b, c⟩ <;> first | exact ⟨a, b, c⟩ | omega
        have HX := Lib.hid (nd_op hs0 hre him)
        have hta := HOK.out a (by simp)
        have HTO := Lib.hid (show TOk (.one l[k] a) from TOk.one (by omega) (nd_op hs0 hre him) hta)
        have HTF := Lib.hid (show (Ex.one l[k] a).flat = ([a] : List Ex).flatMap Ex.flat ++ [l[k]] by show a.flat ++ [l[k]] = _; simp)
        have hfl60 : a.flat.length ≤ 60 := by
          have h1 := flat_le (a := a) (ts := s0 ++ [a]) (by simp)
          rw [HFL.out, List.length_take] at h1
          omega
        have htl : a.txt.length ≤ 1000000 := by have := hta.2; omega
        have HB2 := Lib.hid (bl_alloc HB.out (.cells #[.int .i64 7, .int .i64 l[k].slot, .complex .f64 l[k].re l[k].im] 43))
        clear hgx hops hre him hs0
        obtain ⟨gs, cs, hvs⟩ := Joins.ownsRow_form hown (by simp)
        subst hvs
        have hcs := own_cap2 hown
        have hcs2 : s0.length + 1 ≤ cs := by simpa using hcs
        have hgl : gs < wr.heap.size := (hown.lt gs rfl).2
        have r0 : wr.cell? ⟨gs, s0.length * 2, none⟩ = some (tx a.txt) := by simpa using wt_cell hown 0 (tx a.txt) rfl
        have r1 : wr.cell? ⟨gs, s0.length * 2 + 1, none⟩ = some (.int .i64 (a.str : Int)) := by simpa using wt_cell hown 1 (.int .i64 (a.str : Int)) rfl
        have HO : Hid (wr.ownsRow w.heap.size 49 2 (.slice (some ⟨gs, 0, none⟩) s0.length cs) s0.length (s0.flatMap wtCells)) := Lib.hid (by
          have h1 := hown
          rw [show (s0 ++ [a]).length = s0.length + 1 by simp] at h1
          have h2 := own_take2 h1 (k := s0.length) (by omega)
          rwa [wt_take] at h2)
        have HROW := Lib.hid (fun j (hj : (Value.slice (some ⟨gs, 0, none⟩) s0.length cs).ownBlock = some j) => (HO.out.lt j hj).1)
        have HXS : Hid (([.string (((⟨#[105, 109, 40]⟩ : ByteArray) ++ ⟨a.txt.toArray⟩) ++ ⟨#[41]⟩), .int .i64 (stg 7 : Int)] : List Value) = wtCells (.one l[k] a)) := Lib.hid (by
          have h1 : (Ex.one l[k] a).txt = [105, 109, 40] ++ (a.txt ++ [41]) := by
            show (if l[k].kind = 3 then 43 :: ins 4 a.txt a.str else if l[k].kind = 4 then 45 :: ins 4 a.txt a.str else wordT l[k].kind ++ (a.txt ++ [41])) = _
            rw [hkk]; rfl
          have h2 : (Ex.one l[k] a).str = stg 7 := by show stg l[k].kind = _; rw [hkk]
          show _ = [tx (Ex.one l[k] a).txt, .int .i64 ((Ex.one l[k] a).str : Int)]
          rw [h1, h2, ← List.append_assoc, tx, ← cat, ← cat])
        have hwr0 : IntKind.i64.wrap 0 = 0 := by decide
        have hwr1 : IntKind.i64.wrap 1 = 1 := by decide
        have hwr2 : IntKind.i64.wrap 2 = 2 := by decide
        have g1 : (9223372036854775807 < 3 + a.txt.length) = False := eq_false (by omega)
        have g2 : (9223372036854775807 < 3 + a.txt.length + 1) = False := eq_false (by omega)
        clear hown hkk
        go_wp2_with (first | (go_at_call 18; (with_reducible refine (strength_is 7 (by omega) _).mono ?_); rintro e w9 ⟨rfl, hw9⟩; have hw9x := hw9.symm; clear hw9; subst hw9x) | (go_at_call 19; (with_reducible refine (operands_is 7 1 _ HAR.out).mono ?_); rintro e w9 ⟨rfl, hw9⟩; have hw9x := hw9.symm; clear hw9; subst hw9x))
        have HBX := Lib.hid (Blk.new wr 43 #[.int .i64 7, .int .i64 l[k].slot, .complex .f64 l[k].re l[k].im])
        have b0 := HBX.out.cell 0
        have HS : Hid (∀ W, Below (wr.alloc (.cells #[.int .i64 7, .int .i64 l[k].slot, .complex .f64 l[k].re l[k].im] 43)).heap.size (wr.alloc (.cells #[.int .i64 7, .int .i64 l[k].slot, .complex .f64 l[k].re l[k].im] 43)) W → (W.cell? ⟨wr.heap.size, 0, none⟩ = some (.int .i64 7) ∧ W.cell? ⟨gs, s0.length * 2, none⟩ = some (tx a.txt) ∧ W.cell? ⟨gs, s0.length * 2 + 1, none⟩ = some (.int .i64 (a.str : Int)))) := Lib.hid fun W hW => ⟨lit_on b0 hW, lit_on (lit_on r0 (bl_alloc (Below.refl _ _) _)) hW, lit_on (lit_on r1 (bl_alloc (Below.refl _ _) _)) hW⟩
        clear r0 r1
        go_upto_region 22 with fail
        refine wp_region_held_drew (S := fun W => W.cell? ⟨wr.heap.size, 0, none⟩ = some (.int .i64 7) ∧ W.cell? ⟨gs, s0.length * 2, none⟩ = some (tx a.txt) ∧ W.cell? ⟨gs, s0.length * 2 + 1, none⟩ = some (.int .i64 (a.str : Int))) (by kernel_rfl) ?_ (fun hHeld => ?_)
        · exact HS.out _ (by repeat (first | exact Below.refl _ _ | assumption | refine bl_drew ?_ | refine bl_alloc ?_ _ | refine bl_call ?_ (by assumption)))
        refine wpAnyH_take (i := 1) (v := ?_) rfl (by kernel_rfl) (by kernel_rfl) (by kernel_rfl) (fun _ _ _ h => h) (Or.inl ⟨by rfl, ?_⟩) (by assumption) ?_
        rotate_left
        · intro W hSW
          (try dsimp only at hSW)
          obtain ⟨z0, z1, z2⟩ := hSW
          go_simp
          try with_reducible rfl
        try simp only [Act.put, List.setIfInBounds_toArray, List.set_cons_zero, List.set_cons_succ]
        refine wpAnyH_take (i := 2) (v := ?_) rfl (by kernel_rfl) (by kernel_rfl) (by kernel_rfl) (fun _ _ _ h => h) (Or.inl ⟨by rfl, ?_⟩) (by assumption) ?_
        rotate_left
        · intro W hSW
          (try dsimp only at hSW)
          obtain ⟨z0, z1, z2⟩ := hSW
          go_simp
          try with_reducible rfl
        try simp only [Act.put, List.setIfInBounds_toArray, List.set_cons_zero, List.set_cons_succ]
        refine wpAnyH_take (i := 3) (v := ?_) rfl (by kernel_rfl) (by kernel_rfl) (by kernel_rfl) (fun _ _ _ h => h) (Or.inl ⟨by rfl, ?_⟩) (by assumption) ?_
        rotate_left
        · intro W hSW
          (try dsimp only at hSW)
          obtain ⟨z0, z1, z2⟩ := hSW
          go_simp
          try with_reducible rfl
        try simp only [Act.put, List.setIfInBounds_toArray, List.set_cons_zero, List.set_cons_succ]
        refine wpAnyH_take (i := 6) (v := ?_) rfl (by kernel_rfl) (by kernel_rfl) (by kernel_rfl) (fun _ _ _ h => h) (Or.inl ⟨by rfl, ?_⟩) (by assumption) ?_
        rotate_left
        · intro W hSW
          (try dsimp only at hSW)
          obtain ⟨z0, z1, z2⟩ := hSW
          go_simp
          try with_reducible rfl
        try simp only [Act.put, List.setIfInBounds_toArray, List.set_cons_zero, List.set_cons_succ]
        refine wpAnyH_take (i := 7) (v := ?_) rfl (by kernel_rfl) (by kernel_rfl) (by kernel_rfl) (fun _ _ _ h => h) (Or.inl ⟨by rfl, ?_⟩) (by assumption) ?_
        rotate_left
        · intro W hSW
          (try dsimp only at hSW)
          obtain ⟨z0, z1, z2⟩ := hSW
          go_simp
          try with_reducible rfl
        try simp only [Act.put, List.setIfInBounds_toArray, List.set_cons_zero, List.set_cons_succ]
        refine wpAnyH_take (i := 8) (v := ?_) rfl (by kernel_rfl) (by kernel_rfl) (by kernel_rfl) (fun _ _ _ h => h) (Or.inl ⟨by rfl, ?_⟩) (by assumption) ?_
        rotate_left
        · intro W hSW
          (try dsimp only at hSW)
          obtain ⟨z0, z1, z2⟩ := hSW
          go_simp
          try with_reducible rfl
        try simp only [Act.put, List.setIfInBounds_toArray, List.set_cons_zero, List.set_cons_succ]
        refine wpAnyH_take (i := 9) (v := ?_) rfl (by kernel_rfl) (by kernel_rfl) (by kernel_rfl) (fun _ _ _ h => h) (Or.inl ⟨by rfl, ?_⟩) (by assumption) ?_
        rotate_left
        · intro W hSW
          (try dsimp only at hSW)
          obtain ⟨z0, z1, z2⟩ := hSW
          go_simp
          try with_reducible rfl
        try simp only [Act.put, List.setIfInBounds_toArray, List.set_cons_zero, List.set_cons_succ]
        refine wpAnyH_ready (rs := [0]) (by kernel_rfl) (by simp) ?_
        refine AllReadyH.cons rfl (fun K hK => ?_) (AllReadyH.nil)
        · go_simp
          refine hK.out _ _ ?_ (fun hHeld => ?_)
          · exact HS.out _ (by repeat (first | exact Below.refl _ _ | assumption | refine bl_drew ?_ | refine bl_alloc ?_ _ | refine bl_call ?_ (by assumption)))
          clear hK K
          try simp only [Act.put, List.setIfInBounds_toArray, List.set_cons_zero, List.set_cons_succ]
          refine wpAnyH_more (S' := fun W => (W.cell? ⟨wr.heap.size, 0, none⟩ = some (.int .i64 7) ∧ W.cell? ⟨gs, s0.length * 2, none⟩ = some (tx a.txt) ∧ W.cell? ⟨gs, s0.length * 2 + 1, none⟩ = some (.int .i64 (a.str : Int))) ∧ W.cell? ⟨wr.heap.size + 1, 2, none⟩ = some (.string ⟨#[105, 109, 40]⟩)) (fun _ h => h.1) ?_ (fun hHeld2 => ?_)
          · exact ⟨hHeld, (Blk.new_at (wr.alloc (.cells #[.int .i64 7, .int .i64 l[k].slot, .complex .f64 l[k].re l[k].im] 43)) 9 #[.string ⟨#[99, 111, 110, 106, 40]⟩, .string ⟨#[114, 101, 40]⟩, .string ⟨#[105, 109, 40]⟩] (g := wr.heap.size + 1) (by first | rfl | (rw [World.size_alloc]; done) | (simp; done))).cell 2⟩
          have hLit := hHeld2.2
          refine wpAnyH_take (i := 4) (v := ?_) rfl (by kernel_rfl) (by kernel_rfl) (by kernel_rfl) (fun _ _ _ h => h) (Or.inl ⟨by rfl, ?_⟩) (by assumption) ?_
          rotate_left
          · intro W hSW
            (try dsimp only at hSW)
            obtain ⟨⟨z0, z1, z2⟩, z3⟩ := hSW
            go_simp
            try with_reducible rfl
          try simp only [Act.put, List.setIfInBounds_toArray, List.set_cons_zero, List.set_cons_succ]
          refine wpAnyH_take (i := 5) (v := ?_) rfl (by kernel_rfl) (by kernel_rfl) (by kernel_rfl) (fun _ _ _ h => h) (Or.inl ⟨by rfl, ?_⟩) (by assumption) ?_
          rotate_left
          · intro W hSW
            (try dsimp only at hSW)
            obtain ⟨⟨z0, z1, z2⟩, z3⟩ := hSW
            go_simp
            try with_reducible rfl
          try simp only [Act.put, List.setIfInBounds_toArray, List.set_cons_zero, List.set_cons_succ]
          refine wpAnyH_take (i := 10) (v := ?_) rfl (by kernel_rfl) (by kernel_rfl) (by kernel_rfl) (fun _ _ _ h => h) (Or.inl ⟨by rfl, ?_⟩) (by assumption) ?_
          rotate_left
          · intro W hSW
            (try dsimp only at hSW)
            obtain ⟨⟨z0, z1, z2⟩, z3⟩ := hSW
            go_simp
            try with_reducible rfl
          try simp only [Act.put, List.setIfInBounds_toArray, List.set_cons_zero, List.set_cons_succ]
          refine wpAnyH_take (i := 11) (v := ?_) rfl (by kernel_rfl) (by kernel_rfl) (by kernel_rfl) (fun _ _ _ h => h) (Or.inl ⟨by rfl, ?_⟩) (by assumption) ?_
          rotate_left
          · intro W hSW
            (try dsimp only at hSW)
            obtain ⟨⟨z0, z1, z2⟩, z3⟩ := hSW
            go_simp
            try with_reducible rfl
          try simp only [Act.put, List.setIfInBounds_toArray, List.set_cons_zero, List.set_cons_succ]
          refine wpAnyH_take (i := 12) (v := ?_) rfl (by kernel_rfl) (by kernel_rfl) (by kernel_rfl) (fun _ _ _ h => h) (Or.inl ⟨by rfl, ?_⟩) (by assumption) ?_
          rotate_left
          · intro W hSW
            (try dsimp only at hSW)
            obtain ⟨⟨z0, z1, z2⟩, z3⟩ := hSW
            go_simp
            try with_reducible rfl
          try simp only [Act.put, List.setIfInBounds_toArray, List.set_cons_zero, List.set_cons_succ]
          refine wpAnyH_done (by kernel_rfl) ?_ _
          have HOW := Lib.hid (own_below HO.out (show Below wr.heap.size wr ((wr.alloc (.cells #[.int .i64 7, .int .i64 l[k].slot, .complex .f64 l[k].re l[k].im] 43)).alloc (.cells #[.string ⟨#[99, 111, 110, 106, 40]⟩, .string ⟨#[114, 101, 40]⟩, .string ⟨#[105, 109, 40]⟩] 9)).drew from bl_call (bl_alloc (Below.refl _ wr) (.cells #[.int .i64 7, .int .i64 l[k].slot, .complex .f64 l[k].re l[k].im] 43)) (by repeat (first | exact Below.refl _ _ | assumption | refine bl_drew ?_ | refine bl_alloc ?_ _ | refine bl_call ?_ (by assumption)))))
          have HBW := Lib.hid (show Below w.heap.size w ((wr.alloc (.cells #[.int .i64 7, .int .i64 l[k].slot, .complex .f64 l[k].re l[k].im] 43)).alloc (.cells #[.string ⟨#[99, 111, 110, 106, 40]⟩, .string ⟨#[114, 101, 40]⟩, .string ⟨#[105, 109, 40]⟩] 9)).drew from bl_call HB2.out (by repeat (first | exact Below.refl _ _ | assumption | refine bl_drew ?_ | refine bl_alloc ?_ _ | refine bl_call ?_ (by assumption))))
          have hsW := HBW.out.size
          go_wp2_with (first | (at_builtin; refine wpList_append_lies _ rfl (.tmp 98) (.tmp 102) 40 rfl w.heap.size 49 i0 (.agg #[.string ⟨#[]⟩, .int .i64 0]) 2 24 Tryd.underlying40 hi hz0 hz1 hz2 rfl (by decide) _ _ _ rfl (HOW.out.alloc _) ⟨_, 0, none⟩ 1 1 ([.string (((⟨#[105, 109, 40]⟩ : ByteArray) ++ ⟨a.txt.toArray⟩) ++ ⟨#[41]⟩), .int .i64 (stg 7 : Int)]) rfl rfl ?c1 ?c2 (by decide) ?c3 ?c4 ?c5 _ rfl ?_))
          case c1 => exact wt_news2 _ _ _ _ (by first | rfl | (rw [World.size_alloc]; done) | (simp; done))
          case c2 => exact wt_one2 _ _ rfl rfl
          case c3 => unfold maxLen; omega
          case c4 => omega
          case c5 => first | (rw [World.size_alloc]; omega) | exact (bl_alloc HBW.out _).size
          · intro g' cap' w9 hown' hgrow _ _
            have HN := Lib.hid (HNX.out (.one l[k] a) HTO.out HTF.out _ _ _ _ _ _ _ _ HBW.out rfl (by rw [HXS.out]) hown' hgrow HROW.out)
            clear hown' hgrow
            go_wp2
            case roundEnd => exact HN.out
      · obtain ⟨a, b, rfl⟩ : ∃ a b, ops = [a, b] := by
          have h2 : ops.length = 2 := by rw [hops, hkk]; rfl
          match ops, h2 with
          | [a, b], _ => exact ⟨a, b, rfl⟩
        rw [hkk] at x0
        have HKK := Lib.hid hkk
        have HAR := Lib.hid (show ar 8 = 2 from rfl)
        obtain ⟨hs0, hre, him⟩ : l[k].slot = 0 ∧ l[k].re = 0 ∧ l[k].im = 0 := by rcases hgx with ⟨h, _⟩ | ⟨h, _⟩ | ⟨_, a, b, c⟩ <;> first | exact ⟨a, b, c⟩ | omega
        have HX := Lib.hid (nd_op hs0 hre him)
        have hta := HOK.out a (by simp)
        have htb := HOK.out b (by simp)
        have HTO := Lib.hid (show TOk (.two l[k] a b) from TOk.two (by omega) (nd_op hs0 hre him) hta htb)
        have HTF := Lib.hid (show (Ex.two l[k] a b).flat = ([a, b] : List Ex).flatMap Ex.flat ++ [l[k]] by show a.flat ++ b.flat ++ [l[k]] = _; simp)
        have hfl60 : a.flat.length ≤ 60 := by
          have h1 := flat_le (a := a) (ts := s0 ++ [a, b]) (by simp)
          rw [HFL.out, List.length_take] at h1
          omega
        have hfl60b : b.flat.length ≤ 60 := by
          have h1 := flat_le (a := b) (ts := s0 ++ [a, b]) (by simp)
          rw [HFL.out, List.length_take] at h1
          omega
        have htl : a.txt.length ≤ 1000000 := by have := hta.2; omega
        have htlb : b.txt.length ≤ 1000000 := by have := htb.2; omega
        have HB2 := Lib.hid (bl_alloc HB.out (.cells #[.int .i64 8, .int .i64 l[k].slot, .complex .f64 l[k].re l[k].im] 43))
        clear hgx hops hre him hs0
        obtain ⟨gs, cs, hvs⟩ := Joins.ownsRow_form hown (by simp)
        subst hvs
        have hcs := own_cap2 hown
        have hcs2 : s0.length + 2 ≤ cs := by simpa using hcs
        have hgl : gs < wr.heap.size := (hown.lt gs rfl).2
        have r0 : wr.cell? ⟨gs, s0.length * 2, none⟩ = some (tx a.txt) := by simpa using wt_cell hown 0 (tx a.txt) rfl
        have r1 : wr.cell? ⟨gs, s0.length * 2 + 1, none⟩ = some (.int .i64 (a.str : Int)) := by simpa using wt_cell hown 1 (.int .i64 (a.str : Int)) rfl
        have r2 : wr.cell? ⟨gs, s0.length * 2 + 2, none⟩ = some (tx b.txt) := by simpa using wt_cell hown 2 (tx b.txt) rfl
        have r3 : wr.cell? ⟨gs, s0.length * 2 + 3, none⟩ = some (.int .i64 (b.str : Int)) := by simpa using wt_cell hown 3 (.int .i64 (b.str : Int)) rfl
        have HO : Hid (wr.ownsRow w.heap.size 49 2 (.slice (some ⟨gs, 0, none⟩) s0.length cs) s0.length (s0.flatMap wtCells)) := Lib.hid (by
          have h1 := hown
          rw [show (s0 ++ [a, b]).length = s0.length + 2 by simp] at h1
          have h2 := own_take2 h1 (k := s0.length) (by omega)
          rwa [wt_take] at h2)
        have HROW := Lib.hid (fun j (hj : (Value.slice (some ⟨gs, 0, none⟩) s0.length cs).ownBlock = some j) => (HO.out.lt j hj).1)
        have HXS : Hid (([.string (((⟨(ins 2 a.txt a.str).toArray⟩ : ByteArray) ++ ⟨#[32, 43, 32]⟩) ++ ⟨(ins 3 b.txt b.str).toArray⟩), .int .i64 2] : List Value) = wtCells (.two l[k] a b)) := Lib.hid (by
          have h1 : (Ex.two l[k] a b).txt = ins 2 a.txt a.str ++ ([32, 43, 32] ++ ins (2 + 1) b.txt b.str) := by
            show ins (stg l[k].kind) a.txt a.str ++ (opT l[k].kind ++ ins (stg l[k].kind + 1) b.txt b.str) = _
            rw [hkk]; rfl
          have h2 : (Ex.two l[k] a b).str = 2 := by show stg l[k].kind = _; rw [hkk]; rfl
          show _ = [tx (Ex.two l[k] a b).txt, .int .i64 ((Ex.two l[k] a b).str : Int)]
          rw [h1, h2, ← List.append_assoc, tx, ← cat, ← cat]
          rfl)
        have hwr0 : IntKind.i64.wrap 0 = 0 := by decide
        have hwr1 : IntKind.i64.wrap 1 = 1 := by decide
        have hwr2 : IntKind.i64.wrap 2 = 2 := by decide
        have hwr3 : IntKind.i64.wrap 3 = 3 := by decide
        have hwr4 : IntKind.i64.wrap 4 = 4 := by decide
        have hsg : ((stg 8 : Nat) : Int) = 2 := rfl
        have htl2 := ins_len 2 a.str a.txt
        have htl3 := ins_len 3 b.str b.txt
        have g1 : (9223372036854775807 < (ins 2 a.txt a.str).length + 3) = False := eq_false (by omega)
        have g2 : (9223372036854775807 < (ins 2 a.txt a.str).length + 3 + (ins 3 b.txt b.str).length) = False := eq_false (by omega)
        clear hown hkk
        go_wp2_with (first | (go_at_call 18; (with_reducible refine (strength_is 8 (by omega) _).mono ?_); rintro e w9 ⟨rfl, hw9⟩; have hw9x := hw9.symm; clear hw9; subst hw9x) | (go_at_call 19; (with_reducible refine (operands_is 8 2 _ HAR.out).mono ?_); rintro e w9 ⟨rfl, hw9⟩; have hw9x := hw9.symm; clear hw9; subst hw9x))
        have HBX := Lib.hid (Blk.new wr 43 #[.int .i64 8, .int .i64 l[k].slot, .complex .f64 l[k].re l[k].im])
        have b0 := HBX.out.cell 0
        have HS : Hid (∀ W, Below (wr.alloc (.cells #[.int .i64 8, .int .i64 l[k].slot, .complex .f64 l[k].re l[k].im] 43)).heap.size (wr.alloc (.cells #[.int .i64 8, .int .i64 l[k].slot, .complex .f64 l[k].re l[k].im] 43)) W → (W.cell? ⟨wr.heap.size, 0, none⟩ = some (.int .i64 8) ∧ W.cell? ⟨gs, s0.length * 2, none⟩ = some (tx a.txt) ∧ W.cell? ⟨gs, s0.length * 2 + 1, none⟩ = some (.int .i64 (a.str : Int)) ∧ W.cell? ⟨gs, s0.length * 2 + 2, none⟩ = some (tx b.txt) ∧ W.cell? ⟨gs, s0.length * 2 + 3, none⟩ = some (.int .i64 (b.str : Int)))) := Lib.hid fun W hW => ⟨lit_on b0 hW, lit_on (lit_on r0 (bl_alloc (Below.refl _ _) _)) hW, lit_on (lit_on r1 (bl_alloc (Below.refl _ _) _)) hW, lit_on (lit_on r2 (bl_alloc (Below.refl _ _) _)) hW, lit_on (lit_on r3 (bl_alloc (Below.refl _ _) _)) hW⟩
        clear r0 r1 r2 r3
        go_upto_region 11 with fail
        refine wp_region_held_drew (S := fun W => W.cell? ⟨wr.heap.size, 0, none⟩ = some (.int .i64 8) ∧ W.cell? ⟨gs, s0.length * 2, none⟩ = some (tx a.txt) ∧ W.cell? ⟨gs, s0.length * 2 + 1, none⟩ = some (.int .i64 (a.str : Int)) ∧ W.cell? ⟨gs, s0.length * 2 + 2, none⟩ = some (tx b.txt) ∧ W.cell? ⟨gs, s0.length * 2 + 3, none⟩ = some (.int .i64 (b.str : Int))) (by kernel_rfl) ?_ (fun hHeld => ?_)
        · exact HS.out _ (by repeat (first | exact Below.refl _ _ | assumption | refine bl_drew ?_ | refine bl_alloc ?_ _ | refine bl_call ?_ (by assumption)))
        refine wpAnyH_take (i := 0) (v := ?_) rfl (by kernel_rfl) (by kernel_rfl) (by kernel_rfl) (fun _ _ _ h => h) (Or.inl ⟨by rfl, ?_⟩) (by assumption) ?_
        rotate_left
        · intro W hSW
          (try dsimp only at hSW)
          obtain ⟨z0, z1, z2, z4, z5⟩ := hSW
          go_simp
          try with_reducible rfl
        try simp only [Act.put, List.setIfInBounds_toArray, List.set_cons_zero, List.set_cons_succ]
        refine wpAnyH_take (i := 1) (v := ?_) rfl (by kernel_rfl) (by kernel_rfl) (by kernel_rfl) (fun _ _ _ h => h) (Or.inl ⟨by rfl, ?_⟩) (by assumption) ?_
        rotate_left
        · intro W hSW
          (try dsimp only at hSW)
          obtain ⟨z0, z1, z2, z4, z5⟩ := hSW
          go_simp
          try with_reducible rfl
        try simp only [Act.put, List.setIfInBounds_toArray, List.set_cons_zero, List.set_cons_succ]
        refine wpAnyH_take (i := 2) (v := ?_) rfl (by kernel_rfl) (by kernel_rfl) (by kernel_rfl) (fun _ _ _ h => h) (Or.inl ⟨by rfl, ?_⟩) (by assumption) ?_
        rotate_left
        · intro W hSW
          (try dsimp only at hSW)
          obtain ⟨z0, z1, z2, z4, z5⟩ := hSW
          go_simp
          try with_reducible rfl
        try simp only [Act.put, List.setIfInBounds_toArray, List.set_cons_zero, List.set_cons_succ]
        refine wpAnyH_take (i := 3) (v := ?_) rfl (by kernel_rfl) (by kernel_rfl) (by kernel_rfl) (fun _ _ _ h => h) (Or.inl ⟨by rfl, ?_⟩) (by assumption) ?_
        rotate_left
        · intro W hSW
          (try dsimp only at hSW)
          obtain ⟨z0, z1, z2, z4, z5⟩ := hSW
          go_simp
          try with_reducible rfl
        try simp only [Act.put, List.setIfInBounds_toArray, List.set_cons_zero, List.set_cons_succ]
        refine wpAnyH_take (i := 6) (v := ?_) rfl (by kernel_rfl) (by kernel_rfl) (by kernel_rfl) (fun _ _ _ h => h) (Or.inl ⟨by rfl, ?_⟩) (by assumption) ?_
        rotate_left
        · intro W hSW
          (try dsimp only at hSW)
          obtain ⟨z0, z1, z2, z4, z5⟩ := hSW
          go_simp
          try with_reducible rfl
        try simp only [Act.put, List.setIfInBounds_toArray, List.set_cons_zero, List.set_cons_succ]
        refine wpAnyH_take (i := 7) (v := ?_) rfl (by kernel_rfl) (by kernel_rfl) (by kernel_rfl) (fun _ _ _ h => h) (Or.inl ⟨by rfl, ?_⟩) (by assumption) ?_
        rotate_left
        · intro W hSW
          (try dsimp only at hSW)
          obtain ⟨z0, z1, z2, z4, z5⟩ := hSW
          go_simp
          try with_reducible rfl
        try simp only [Act.put, List.setIfInBounds_toArray, List.set_cons_zero, List.set_cons_succ]
        refine wpAnyH_take (i := 8) (v := ?_) rfl (by kernel_rfl) (by kernel_rfl) (by kernel_rfl) (fun _ _ _ h => h) (Or.inl ⟨by rfl, ?_⟩) (by assumption) ?_
        rotate_left
        · intro W hSW
          (try dsimp only at hSW)
          obtain ⟨z0, z1, z2, z4, z5⟩ := hSW
          go_simp
          try with_reducible rfl
        try simp only [Act.put, List.setIfInBounds_toArray, List.set_cons_zero, List.set_cons_succ]
        refine wpAnyH_take (i := 12) (v := ?_) rfl (by kernel_rfl) (by kernel_rfl) (by kernel_rfl) (fun _ _ _ h => h) (Or.inl ⟨by rfl, ?_⟩) (by assumption) ?_
        rotate_left
        · intro W hSW
          (try dsimp only at hSW)
          obtain ⟨z0, z1, z2, z4, z5⟩ := hSW
          go_simp
          try with_reducible rfl
        try simp only [Act.put, List.setIfInBounds_toArray, List.set_cons_zero, List.set_cons_succ]
        refine wpAnyH_take (i := 13) (v := ?_) rfl (by kernel_rfl) (by kernel_rfl) (by kernel_rfl) (fun _ _ _ h => h) (Or.inl ⟨by rfl, ?_⟩) (by assumption) ?_
        rotate_left
        · intro W hSW
          (try dsimp only at hSW)
          obtain ⟨z0, z1, z2, z4, z5⟩ := hSW
          go_simp
          try with_reducible rfl
        try simp only [Act.put, List.setIfInBounds_toArray, List.set_cons_zero, List.set_cons_succ]
        refine wpAnyH_take (i := 14) (v := ?_) rfl (by kernel_rfl) (by kernel_rfl) (by kernel_rfl) (fun _ _ _ h => h) (Or.inl ⟨by rfl, ?_⟩) (by assumption) ?_
        rotate_left
        · intro W hSW
          (try dsimp only at hSW)
          obtain ⟨z0, z1, z2, z4, z5⟩ := hSW
          go_simp
          try with_reducible rfl
        try simp only [Act.put, List.setIfInBounds_toArray, List.set_cons_zero, List.set_cons_succ]
        refine wpAnyH_take (i := 15) (v := ?_) rfl (by kernel_rfl) (by kernel_rfl) (by kernel_rfl) (fun _ _ _ h => h) (Or.inl ⟨by rfl, ?_⟩) (by assumption) ?_
        rotate_left
        · intro W hSW
          (try dsimp only at hSW)
          obtain ⟨z0, z1, z2, z4, z5⟩ := hSW
          go_simp
          try with_reducible rfl
        try simp only [Act.put, List.setIfInBounds_toArray, List.set_cons_zero, List.set_cons_succ]
        refine wpAnyH_take (i := 16) (v := ?_) rfl (by kernel_rfl) (by kernel_rfl) (by kernel_rfl) (fun _ _ _ h => h) (Or.inl ⟨by rfl, ?_⟩) (by assumption) ?_
        rotate_left
        · intro W hSW
          (try dsimp only at hSW)
          obtain ⟨z0, z1, z2, z4, z5⟩ := hSW
          go_simp
          try with_reducible rfl
        try simp only [Act.put, List.setIfInBounds_toArray, List.set_cons_zero, List.set_cons_succ]
        refine wpAnyH_ready (rs := [4, 5]) (by kernel_rfl) (by simp) ?_
        refine AllReadyH.cons rfl (fun K hK => ?_) (AllReadyH.cons rfl (fun K hK => ?_) (AllReadyH.nil))
        · go_simp
          refine (inside_is a.txt a.str 2 _ rfl htl _).mono ?_
          rintro e w5 ⟨rfl, hb5⟩
          go_simp
          refine hK.out _ _ ?_ (fun hHeld => ?_)
          · exact HS.out _ (by repeat (first | exact Below.refl _ _ | assumption | refine bl_drew ?_ | refine bl_alloc ?_ _ | refine bl_call ?_ (by assumption)))
          clear hK K
          try simp only [Act.put, List.setIfInBounds_toArray, List.set_cons_zero, List.set_cons_succ]
          refine wpAnyH_ready (rs := [5, 17]) (by kernel_rfl) (by simp) ?_
          refine AllReadyH.cons rfl (fun K hK => ?_) (AllReadyH.cons rfl (fun K hK => ?_) (AllReadyH.nil))
          · go_simp
            refine hK.out _ _ ?_ (fun hHeld => ?_)
            · exact HS.out _ (by repeat (first | exact Below.refl _ _ | assumption | refine bl_drew ?_ | refine bl_alloc ?_ _ | refine bl_call ?_ (by assumption)))
            clear hK K
            try simp only [Act.put, List.setIfInBounds_toArray, List.set_cons_zero, List.set_cons_succ]
            refine wpAnyH_more (S' := fun W => (W.cell? ⟨wr.heap.size, 0, none⟩ = some (.int .i64 8) ∧ W.cell? ⟨gs, s0.length * 2, none⟩ = some (tx a.txt) ∧ W.cell? ⟨gs, s0.length * 2 + 1, none⟩ = some (.int .i64 (a.str : Int)) ∧ W.cell? ⟨gs, s0.length * 2 + 2, none⟩ = some (tx b.txt) ∧ W.cell? ⟨gs, s0.length * 2 + 3, none⟩ = some (.int .i64 (b.str : Int))) ∧ W.cell? ⟨w5.heap.size, 0, none⟩ = some (.string ⟨#[32, 43, 32]⟩)) (fun _ h => h.1) ?_ (fun hHeld2 => ?_)
            · exact ⟨hHeld, (Blk.new_at w5 9 #[.string ⟨#[32, 43, 32]⟩, .string ⟨#[32, 45, 32]⟩, .string ⟨#[32, 42, 32]⟩, .string ⟨#[32, 47, 32]⟩, .string ⟨#[32, 61, 32]⟩] (g := w5.heap.size) (by first | rfl | (rw [World.size_alloc]; done) | (simp; done))).cell 0⟩
            have hLit := hHeld2.2
            refine wpAnyH_take (i := 9) (v := ?_) rfl (by kernel_rfl) (by kernel_rfl) (by kernel_rfl) (fun _ _ _ h => h) (Or.inl ⟨by rfl, ?_⟩) (by assumption) ?_
            rotate_left
            · intro W hSW
              (try dsimp only at hSW)
              obtain ⟨⟨z0, z1, z2, z4, z5⟩, z3⟩ := hSW
              go_simp
              try with_reducible rfl
            try simp only [Act.put, List.setIfInBounds_toArray, List.set_cons_zero, List.set_cons_succ]
            refine wpAnyH_take (i := 10) (v := ?_) rfl (by kernel_rfl) (by kernel_rfl) (by kernel_rfl) (fun _ _ _ h => h) (Or.inl ⟨by rfl, ?_⟩) (by assumption) ?_
            rotate_left
            · intro W hSW
              (try dsimp only at hSW)
              obtain ⟨⟨z0, z1, z2, z4, z5⟩, z3⟩ := hSW
              go_simp
              try with_reducible rfl
            try simp only [Act.put, List.setIfInBounds_toArray, List.set_cons_zero, List.set_cons_succ]
            refine wpAnyH_take (i := 11) (v := ?_) rfl (by kernel_rfl) (by kernel_rfl) (by kernel_rfl) (fun _ _ _ h => h) (Or.inl ⟨by rfl, ?_⟩) (by assumption) ?_
            rotate_left
            · intro W hSW
              (try dsimp only at hSW)
              obtain ⟨⟨z0, z1, z2, z4, z5⟩, z3⟩ := hSW
              go_simp
              try with_reducible rfl
            try simp only [Act.put, List.setIfInBounds_toArray, List.set_cons_zero, List.set_cons_succ]
            refine wpAnyH_ready (rs := [17]) (by kernel_rfl) (by simp) ?_
            refine AllReadyH.cons rfl (fun K hK => ?_) (AllReadyH.nil)
            · go_simp
              refine (inside_is b.txt b.str 3 _ rfl htlb _).mono ?_
              rintro e w6 ⟨rfl, hb6⟩
              go_simp
              refine hK.out _ _ ?_ (fun hHeld => ?_)
              · exact ⟨HS.out _ (by repeat (first | exact Below.refl _ _ | assumption | refine bl_drew ?_ | refine bl_alloc ?_ _ | refine bl_call ?_ (by assumption))), lit_on hLit hb6⟩
              have hLit := hHeld.2
              clear hK K
              try simp only [Act.put, List.setIfInBounds_toArray, List.set_cons_zero, List.set_cons_succ]
              refine wpAnyH_take (i := 18) (v := ?_) rfl (by kernel_rfl) (by kernel_rfl) (by kernel_rfl) (fun _ _ _ h => h) (Or.inl ⟨by rfl, ?_⟩) (by assumption) ?_
              rotate_left
              · intro W hSW
                (try dsimp only at hSW)
                obtain ⟨⟨z0, z1, z2, z4, z5⟩, z3⟩ := hSW
                go_simp
                try with_reducible rfl
              try simp only [Act.put, List.setIfInBounds_toArray, List.set_cons_zero, List.set_cons_succ]
              refine wpAnyH_take (i := 19) (v := ?_) rfl (by kernel_rfl) (by kernel_rfl) (by kernel_rfl) (fun _ _ _ h => h) (Or.inl ⟨by rfl, ?_⟩) (by assumption) ?_
              rotate_left
              · intro W hSW
                (try dsimp only at hSW)
                obtain ⟨⟨z0, z1, z2, z4, z5⟩, z3⟩ := hSW
                go_simp
                try with_reducible rfl
              try simp only [Act.put, List.setIfInBounds_toArray, List.set_cons_zero, List.set_cons_succ]
              refine wpAnyH_done (by kernel_rfl) ?_ _
              have HOW := Lib.hid (own_below HO.out (show Below wr.heap.size wr w6 from bl_call (bl_alloc (Below.refl _ wr) (.cells #[.int .i64 8, .int .i64 l[k].slot, .complex .f64 l[k].re l[k].im] 43)) (by repeat (first | exact Below.refl _ _ | assumption | refine bl_drew ?_ | refine bl_alloc ?_ _ | refine bl_call ?_ (by assumption)))))
              have HBW := Lib.hid (show Below w.heap.size w w6 from bl_call HB2.out (by repeat (first | exact Below.refl _ _ | assumption | refine bl_drew ?_ | refine bl_alloc ?_ _ | refine bl_call ?_ (by assumption))))
              have hsW := HBW.out.size
              go_wp2_with (first | (at_builtin; refine wpList_append_lies _ rfl (.tmp 98) (.tmp 102) 40 rfl w.heap.size 49 i0 (.agg #[.string ⟨#[]⟩, .int .i64 0]) 2 24 Tryd.underlying40 hi hz0 hz1 hz2 rfl (by decide) _ _ _ rfl (HOW.out.alloc _) ⟨_, 0, none⟩ 1 1 ([.string (((⟨(ins 2 a.txt a.str).toArray⟩ : ByteArray) ++ ⟨#[32, 43, 32]⟩) ++ ⟨(ins 3 b.txt b.str).toArray⟩), .int .i64 2]) rfl rfl ?c1 ?c2 (by decide) ?c3 ?c4 ?c5 _ rfl ?_))
              case c1 => exact wt_news2 _ _ _ _ (by first | rfl | (rw [World.size_alloc]; done) | (simp; done))
              case c2 => exact wt_one2 _ _ rfl rfl
              case c3 => unfold maxLen; omega
              case c4 => omega
              case c5 => first | (rw [World.size_alloc]; omega) | exact (bl_alloc HBW.out _).size
              · intro g' cap' w9 hown' hgrow _ _
                have HN := Lib.hid (HNX.out (.two l[k] a b) HTO.out HTF.out _ _ _ _ _ _ _ _ HBW.out rfl (by rw [HXS.out]) hown' hgrow HROW.out)
                clear hown' hgrow
                go_wp2
                case roundEnd => exact HN.out
          · go_simp
            refine (inside_is b.txt b.str 3 _ rfl htlb _).mono ?_
            rintro e w6 ⟨rfl, hb6⟩
            go_simp
            refine hK.out _ _ ?_ (fun hHeld => ?_)
            · exact HS.out _ (by repeat (first | exact Below.refl _ _ | assumption | refine bl_drew ?_ | refine bl_alloc ?_ _ | refine bl_call ?_ (by assumption)))
            clear hK K
            try simp only [Act.put, List.setIfInBounds_toArray, List.set_cons_zero, List.set_cons_succ]
            refine wpAnyH_ready (rs := [5]) (by kernel_rfl) (by simp) ?_
            refine AllReadyH.cons rfl (fun K hK => ?_) (AllReadyH.nil)
            · go_simp
              refine hK.out _ _ ?_ (fun hHeld => ?_)
              · exact HS.out _ (by repeat (first | exact Below.refl _ _ | assumption | refine bl_drew ?_ | refine bl_alloc ?_ _ | refine bl_call ?_ (by assumption)))
              clear hK K
              try simp only [Act.put, List.setIfInBounds_toArray, List.set_cons_zero, List.set_cons_succ]
              refine wpAnyH_more (S' := fun W => (W.cell? ⟨wr.heap.size, 0, none⟩ = some (.int .i64 8) ∧ W.cell? ⟨gs, s0.length * 2, none⟩ = some (tx a.txt) ∧ W.cell? ⟨gs, s0.length * 2 + 1, none⟩ = some (.int .i64 (a.str : Int)) ∧ W.cell? ⟨gs, s0.length * 2 + 2, none⟩ = some (tx b.txt) ∧ W.cell? ⟨gs, s0.length * 2 + 3, none⟩ = some (.int .i64 (b.str : Int))) ∧ W.cell? ⟨w6.heap.size, 0, none⟩ = some (.string ⟨#[32, 43, 32]⟩)) (fun _ h => h.1) ?_ (fun hHeld2 => ?_)
              · exact ⟨hHeld, (Blk.new_at w6 9 #[.string ⟨#[32, 43, 32]⟩, .string ⟨#[32, 45, 32]⟩, .string ⟨#[32, 42, 32]⟩, .string ⟨#[32, 47, 32]⟩, .string ⟨#[32, 61, 32]⟩] (g := w6.heap.size) (by first | rfl | (rw [World.size_alloc]; done) | (simp; done))).cell 0⟩
              have hLit := hHeld2.2
              refine wpAnyH_take (i := 9) (v := ?_) rfl (by kernel_rfl) (by kernel_rfl) (by kernel_rfl) (fun _ _ _ h => h) (Or.inl ⟨by rfl, ?_⟩) (by assumption) ?_
              rotate_left
              · intro W hSW
                (try dsimp only at hSW)
                obtain ⟨⟨z0, z1, z2, z4, z5⟩, z3⟩ := hSW
                go_simp
                try with_reducible rfl
              try simp only [Act.put, List.setIfInBounds_toArray, List.set_cons_zero, List.set_cons_succ]
              refine wpAnyH_take (i := 10) (v := ?_) rfl (by kernel_rfl) (by kernel_rfl) (by kernel_rfl) (fun _ _ _ h => h) (Or.inl ⟨by rfl, ?_⟩) (by assumption) ?_
              rotate_left
              · intro W hSW
                (try dsimp only at hSW)
                obtain ⟨⟨z0, z1, z2, z4, z5⟩, z3⟩ := hSW
                go_simp
                try with_reducible rfl
              try simp only [Act.put, List.setIfInBounds_toArray, List.set_cons_zero, List.set_cons_succ]
              refine wpAnyH_take (i := 11) (v := ?_) rfl (by kernel_rfl) (by kernel_rfl) (by kernel_rfl) (fun _ _ _ h => h) (Or.inl ⟨by rfl, ?_⟩) (by assumption) ?_
              rotate_left
              · intro W hSW
                (try dsimp only at hSW)
                obtain ⟨⟨z0, z1, z2, z4, z5⟩, z3⟩ := hSW
                go_simp
                try with_reducible rfl
              try simp only [Act.put, List.setIfInBounds_toArray, List.set_cons_zero, List.set_cons_succ]
              refine wpAnyH_take (i := 18) (v := ?_) rfl (by kernel_rfl) (by kernel_rfl) (by kernel_rfl) (fun _ _ _ h => h) (Or.inl ⟨by rfl, ?_⟩) (by assumption) ?_
              rotate_left
              · intro W hSW
                (try dsimp only at hSW)
                obtain ⟨⟨z0, z1, z2, z4, z5⟩, z3⟩ := hSW
                go_simp
                try with_reducible rfl
              try simp only [Act.put, List.setIfInBounds_toArray, List.set_cons_zero, List.set_cons_succ]
              refine wpAnyH_take (i := 19) (v := ?_) rfl (by kernel_rfl) (by kernel_rfl) (by kernel_rfl) (fun _ _ _ h => h) (Or.inl ⟨by rfl, ?_⟩) (by assumption) ?_
              rotate_left
              · intro W hSW
                (try dsimp only at hSW)
                obtain ⟨⟨z0, z1, z2, z4, z5⟩, z3⟩ := hSW
                go_simp
                try with_reducible rfl
              try simp only [Act.put, List.setIfInBounds_toArray, List.set_cons_zero, List.set_cons_succ]
              refine wpAnyH_done (by kernel_rfl) ?_ _
              have HOW := Lib.hid (own_below HO.out (show Below wr.heap.size wr (w6.alloc (.cells #[.string ⟨#[32, 43, 32]⟩, .string ⟨#[32, 45, 32]⟩, .string ⟨#[32, 42, 32]⟩, .string ⟨#[32, 47, 32]⟩, .string ⟨#[32, 61, 32]⟩] 9)) from bl_call (bl_alloc (Below.refl _ wr) (.cells #[.int .i64 8, .int .i64 l[k].slot, .complex .f64 l[k].re l[k].im] 43)) (by repeat (first | exact Below.refl _ _ | assumption | refine bl_drew ?_ | refine bl_alloc ?_ _ | refine bl_call ?_ (by assumption)))))
              have HBW := Lib.hid (show Below w.heap.size w (w6.alloc (.cells #[.string ⟨#[32, 43, 32]⟩, .string ⟨#[32, 45, 32]⟩, .string ⟨#[32, 42, 32]⟩, .string ⟨#[32, 47, 32]⟩, .string ⟨#[32, 61, 32]⟩] 9)) from bl_call HB2.out (by repeat (first | exact Below.refl _ _ | assumption | refine bl_drew ?_ | refine bl_alloc ?_ _ | refine bl_call ?_ (by assumption))))
              have hsW := HBW.out.size
              go_wp2_with (first | (at_builtin; refine wpList_append_lies _ rfl (.tmp 98) (.tmp 102) 40 rfl w.heap.size 49 i0 (.agg #[.string ⟨#[]⟩, .int .i64 0]) 2 24 Tryd.underlying40 hi hz0 hz1 hz2 rfl (by decide) _ _ _ rfl (HOW.out.alloc _) ⟨_, 0, none⟩ 1 1 ([.string (((⟨(ins 2 a.txt a.str).toArray⟩ : ByteArray) ++ ⟨#[32, 43, 32]⟩) ++ ⟨(ins 3 b.txt b.str).toArray⟩), .int .i64 2]) rfl rfl ?c1 ?c2 (by decide) ?c3 ?c4 ?c5 _ rfl ?_))
              case c1 => exact wt_news2 _ _ _ _ (by first | rfl | (rw [World.size_alloc]; done) | (simp; done))
              case c2 => exact wt_one2 _ _ rfl rfl
              case c3 => unfold maxLen; omega
              case c4 => omega
              case c5 => first | (rw [World.size_alloc]; omega) | exact (bl_alloc HBW.out _).size
              · intro g' cap' w9 hown' hgrow _ _
                have HN := Lib.hid (HNX.out (.two l[k] a b) HTO.out HTF.out _ _ _ _ _ _ _ _ HBW.out rfl (by rw [HXS.out]) hown' hgrow HROW.out)
                clear hown' hgrow
                go_wp2
                case roundEnd => exact HN.out
        · go_simp
          refine hK.out _ _ ?_ (fun hHeld => ?_)
          · exact HS.out _ (by repeat (first | exact Below.refl _ _ | assumption | refine bl_drew ?_ | refine bl_alloc ?_ _ | refine bl_call ?_ (by assumption)))
          clear hK K
          try simp only [Act.put, List.setIfInBounds_toArray, List.set_cons_zero, List.set_cons_succ]
          refine wpAnyH_more (S' := fun W => (W.cell? ⟨wr.heap.size, 0, none⟩ = some (.int .i64 8) ∧ W.cell? ⟨gs, s0.length * 2, none⟩ = some (tx a.txt) ∧ W.cell? ⟨gs, s0.length * 2 + 1, none⟩ = some (.int .i64 (a.str : Int)) ∧ W.cell? ⟨gs, s0.length * 2 + 2, none⟩ = some (tx b.txt) ∧ W.cell? ⟨gs, s0.length * 2 + 3, none⟩ = some (.int .i64 (b.str : Int))) ∧ W.cell? ⟨wr.heap.size + 1, 0, none⟩ = some (.string ⟨#[32, 43, 32]⟩)) (fun _ h => h.1) ?_ (fun hHeld2 => ?_)
          · exact ⟨hHeld, (Blk.new_at (wr.alloc (.cells #[.int .i64 8, .int .i64 l[k].slot, .complex .f64 l[k].re l[k].im] 43)) 9 #[.string ⟨#[32, 43, 32]⟩, .string ⟨#[32, 45, 32]⟩, .string ⟨#[32, 42, 32]⟩, .string ⟨#[32, 47, 32]⟩, .string ⟨#[32, 61, 32]⟩] (g := wr.heap.size + 1) (by first | rfl | (rw [World.size_alloc]; done) | (simp; done))).cell 0⟩
          have hLit := hHeld2.2
          refine wpAnyH_take (i := 9) (v := ?_) rfl (by kernel_rfl) (by kernel_rfl) (by kernel_rfl) (fun _ _ _ h => h) (Or.inl ⟨by rfl, ?_⟩) (by assumption) ?_
          rotate_left
          · intro W hSW
            (try dsimp only at hSW)
            obtain ⟨⟨z0, z1, z2, z4, z5⟩, z3⟩ := hSW
            go_simp
            try with_reducible rfl
          try simp only [Act.put, List.setIfInBounds_toArray, List.set_cons_zero, List.set_cons_succ]
          refine wpAnyH_take (i := 10) (v := ?_) rfl (by kernel_rfl) (by kernel_rfl) (by kernel_rfl) (fun _ _ _ h => h) (Or.inl ⟨by rfl, ?_⟩) (by assumption) ?_
          rotate_left
          · intro W hSW
            (try dsimp only at hSW)
            obtain ⟨⟨z0, z1, z2, z4, z5⟩, z3⟩ := hSW
            go_simp
            try with_reducible rfl
          try simp only [Act.put, List.setIfInBounds_toArray, List.set_cons_zero, List.set_cons_succ]
          refine wpAnyH_ready (rs := [4]) (by kernel_rfl) (by simp) ?_
          refine AllReadyH.cons rfl (fun K hK => ?_) (AllReadyH.nil)
          · go_simp
            refine (inside_is a.txt a.str 2 _ rfl htl _).mono ?_
            rintro e w5 ⟨rfl, hb5⟩
            go_simp
            refine hK.out _ _ ?_ (fun hHeld => ?_)
            · exact ⟨HS.out _ (by repeat (first | exact Below.refl _ _ | assumption | refine bl_drew ?_ | refine bl_alloc ?_ _ | refine bl_call ?_ (by assumption))), lit_on hLit hb5⟩
            have hLit := hHeld.2
            clear hK K
            try simp only [Act.put, List.setIfInBounds_toArray, List.set_cons_zero, List.set_cons_succ]
            refine wpAnyH_take (i := 11) (v := ?_) rfl (by kernel_rfl) (by kernel_rfl) (by kernel_rfl) (fun _ _ _ h => h) (Or.inl ⟨by rfl, ?_⟩) (by assumption) ?_
            rotate_left
            · intro W hSW
              (try dsimp only at hSW)
              obtain ⟨⟨z0, z1, z2, z4, z5⟩, z3⟩ := hSW
              go_simp
              try with_reducible rfl
            try simp only [Act.put, List.setIfInBounds_toArray, List.set_cons_zero, List.set_cons_succ]
            refine wpAnyH_ready (rs := [17]) (by kernel_rfl) (by simp) ?_
            refine AllReadyH.cons rfl (fun K hK => ?_) (AllReadyH.nil)
            · go_simp
              refine (inside_is b.txt b.str 3 _ rfl htlb _).mono ?_
              rintro e w6 ⟨rfl, hb6⟩
              go_simp
              refine hK.out _ _ ?_ (fun hHeld => ?_)
              · exact ⟨HS.out _ (by repeat (first | exact Below.refl _ _ | assumption | refine bl_drew ?_ | refine bl_alloc ?_ _ | refine bl_call ?_ (by assumption))), lit_on hLit hb6⟩
              have hLit := hHeld.2
              clear hK K
              try simp only [Act.put, List.setIfInBounds_toArray, List.set_cons_zero, List.set_cons_succ]
              refine wpAnyH_take (i := 18) (v := ?_) rfl (by kernel_rfl) (by kernel_rfl) (by kernel_rfl) (fun _ _ _ h => h) (Or.inl ⟨by rfl, ?_⟩) (by assumption) ?_
              rotate_left
              · intro W hSW
                (try dsimp only at hSW)
                obtain ⟨⟨z0, z1, z2, z4, z5⟩, z3⟩ := hSW
                go_simp
                try with_reducible rfl
              try simp only [Act.put, List.setIfInBounds_toArray, List.set_cons_zero, List.set_cons_succ]
              refine wpAnyH_take (i := 19) (v := ?_) rfl (by kernel_rfl) (by kernel_rfl) (by kernel_rfl) (fun _ _ _ h => h) (Or.inl ⟨by rfl, ?_⟩) (by assumption) ?_
              rotate_left
              · intro W hSW
                (try dsimp only at hSW)
                obtain ⟨⟨z0, z1, z2, z4, z5⟩, z3⟩ := hSW
                go_simp
                try with_reducible rfl
              try simp only [Act.put, List.setIfInBounds_toArray, List.set_cons_zero, List.set_cons_succ]
              refine wpAnyH_done (by kernel_rfl) ?_ _
              have HOW := Lib.hid (own_below HO.out (show Below wr.heap.size wr w6 from bl_call (bl_alloc (Below.refl _ wr) (.cells #[.int .i64 8, .int .i64 l[k].slot, .complex .f64 l[k].re l[k].im] 43)) (by repeat (first | exact Below.refl _ _ | assumption | refine bl_drew ?_ | refine bl_alloc ?_ _ | refine bl_call ?_ (by assumption)))))
              have HBW := Lib.hid (show Below w.heap.size w w6 from bl_call HB2.out (by repeat (first | exact Below.refl _ _ | assumption | refine bl_drew ?_ | refine bl_alloc ?_ _ | refine bl_call ?_ (by assumption))))
              have hsW := HBW.out.size
              go_wp2_with (first | (at_builtin; refine wpList_append_lies _ rfl (.tmp 98) (.tmp 102) 40 rfl w.heap.size 49 i0 (.agg #[.string ⟨#[]⟩, .int .i64 0]) 2 24 Tryd.underlying40 hi hz0 hz1 hz2 rfl (by decide) _ _ _ rfl (HOW.out.alloc _) ⟨_, 0, none⟩ 1 1 ([.string (((⟨(ins 2 a.txt a.str).toArray⟩ : ByteArray) ++ ⟨#[32, 43, 32]⟩) ++ ⟨(ins 3 b.txt b.str).toArray⟩), .int .i64 2]) rfl rfl ?c1 ?c2 (by decide) ?c3 ?c4 ?c5 _ rfl ?_))
              case c1 => exact wt_news2 _ _ _ _ (by first | rfl | (rw [World.size_alloc]; done) | (simp; done))
              case c2 => exact wt_one2 _ _ rfl rfl
              case c3 => unfold maxLen; omega
              case c4 => omega
              case c5 => first | (rw [World.size_alloc]; omega) | exact (bl_alloc HBW.out _).size
              · intro g' cap' w9 hown' hgrow _ _
                have HN := Lib.hid (HNX.out (.two l[k] a b) HTO.out HTF.out _ _ _ _ _ _ _ _ HBW.out rfl (by rw [HXS.out]) hown' hgrow HROW.out)
                clear hown' hgrow
                go_wp2
                case roundEnd => exact HN.out
      · obtain ⟨a, b, rfl⟩ : ∃ a b, ops = [a, b] := by
          have h2 : ops.length = 2 := by rw [hops, hkk]; rfl
          match ops, h2 with
          | [a, b], _ => exact ⟨a, b, rfl⟩
        rw [hkk] at x0
        have HKK := Lib.hid hkk
        have HAR := Lib.hid (show ar 9 = 2 from rfl)
        obtain ⟨hs0, hre, him⟩ : l[k].slot = 0 ∧ l[k].re = 0 ∧ l[k].im = 0 := by rcases hgx with ⟨h, _⟩ | ⟨h, _⟩ | ⟨_, a, b, c⟩ <;> first | exact ⟨a, b, c⟩ | omega
        have HX := Lib.hid (nd_op hs0 hre him)
        have hta := HOK.out a (by simp)
        have htb := HOK.out b (by simp)
        have HTO := Lib.hid (show TOk (.two l[k] a b) from TOk.two (by omega) (nd_op hs0 hre him) hta htb)
        have HTF := Lib.hid (show (Ex.two l[k] a b).flat = ([a, b] : List Ex).flatMap Ex.flat ++ [l[k]] by show a.flat ++ b.flat ++ [l[k]] = _; simp)
        have hfl60 : a.flat.length ≤ 60 := by
          have h1 := flat_le (a := a) (ts := s0 ++ [a, b]) (by simp)
          rw [HFL.out, List.length_take] at h1
          omega
        have hfl60b : b.flat.length ≤ 60 := by
          have h1 := flat_le (a := b) (ts := s0 ++ [a, b]) (by simp)
          rw [HFL.out, List.length_take] at h1
          omega
        have htl : a.txt.length ≤ 1000000 := by have := hta.2; omega
        have htlb : b.txt.length ≤ 1000000 := by have := htb.2; omega
        have HB2 := Lib.hid (bl_alloc HB.out (.cells #[.int .i64 9, .int .i64 l[k].slot, .complex .f64 l[k].re l[k].im] 43))
        clear hgx hops hre him hs0
        obtain ⟨gs, cs, hvs⟩ := Joins.ownsRow_form hown (by simp)
        subst hvs
        have hcs := own_cap2 hown
        have hcs2 : s0.length + 2 ≤ cs := by simpa using hcs
        have hgl : gs < wr.heap.size := (hown.lt gs rfl).2
        have r0 : wr.cell? ⟨gs, s0.length * 2, none⟩ = some (tx a.txt) := by simpa using wt_cell hown 0 (tx a.txt) rfl
        have r1 : wr.cell? ⟨gs, s0.length * 2 + 1, none⟩ = some (.int .i64 (a.str : Int)) := by simpa using wt_cell hown 1 (.int .i64 (a.str : Int)) rfl
        have r2 : wr.cell? ⟨gs, s0.length * 2 + 2, none⟩ = some (tx b.txt) := by simpa using wt_cell hown 2 (tx b.txt) rfl
        have r3 : wr.cell? ⟨gs, s0.length * 2 + 3, none⟩ = some (.int .i64 (b.str : Int)) := by simpa using wt_cell hown 3 (.int .i64 (b.str : Int)) rfl
        have HO : Hid (wr.ownsRow w.heap.size 49 2 (.slice (some ⟨gs, 0, none⟩) s0.length cs) s0.length (s0.flatMap wtCells)) := Lib.hid (by
          have h1 := hown
          rw [show (s0 ++ [a, b]).length = s0.length + 2 by simp] at h1
          have h2 := own_take2 h1 (k := s0.length) (by omega)
          rwa [wt_take] at h2)
        have HROW := Lib.hid (fun j (hj : (Value.slice (some ⟨gs, 0, none⟩) s0.length cs).ownBlock = some j) => (HO.out.lt j hj).1)
        have HXS : Hid (([.string (((⟨(ins 2 a.txt a.str).toArray⟩ : ByteArray) ++ ⟨#[32, 45, 32]⟩) ++ ⟨(ins 3 b.txt b.str).toArray⟩), .int .i64 2] : List Value) = wtCells (.two l[k] a b)) := Lib.hid (by
          have h1 : (Ex.two l[k] a b).txt = ins 2 a.txt a.str ++ ([32, 45, 32] ++ ins (2 + 1) b.txt b.str) := by
            show ins (stg l[k].kind) a.txt a.str ++ (opT l[k].kind ++ ins (stg l[k].kind + 1) b.txt b.str) = _
            rw [hkk]; rfl
          have h2 : (Ex.two l[k] a b).str = 2 := by show stg l[k].kind = _; rw [hkk]; rfl
          show _ = [tx (Ex.two l[k] a b).txt, .int .i64 ((Ex.two l[k] a b).str : Int)]
          rw [h1, h2, ← List.append_assoc, tx, ← cat, ← cat]
          rfl)
        have hwr0 : IntKind.i64.wrap 0 = 0 := by decide
        have hwr1 : IntKind.i64.wrap 1 = 1 := by decide
        have hwr2 : IntKind.i64.wrap 2 = 2 := by decide
        have hwr3 : IntKind.i64.wrap 3 = 3 := by decide
        have hwr4 : IntKind.i64.wrap 4 = 4 := by decide
        have hsg : ((stg 9 : Nat) : Int) = 2 := rfl
        have htl2 := ins_len 2 a.str a.txt
        have htl3 := ins_len 3 b.str b.txt
        have g1 : (9223372036854775807 < (ins 2 a.txt a.str).length + 3) = False := eq_false (by omega)
        have g2 : (9223372036854775807 < (ins 2 a.txt a.str).length + 3 + (ins 3 b.txt b.str).length) = False := eq_false (by omega)
        clear hown hkk
        go_wp2_with (first | (go_at_call 18; (with_reducible refine (strength_is 9 (by omega) _).mono ?_); rintro e w9 ⟨rfl, hw9⟩; have hw9x := hw9.symm; clear hw9; subst hw9x) | (go_at_call 19; (with_reducible refine (operands_is 9 2 _ HAR.out).mono ?_); rintro e w9 ⟨rfl, hw9⟩; have hw9x := hw9.symm; clear hw9; subst hw9x))
        have HBX := Lib.hid (Blk.new wr 43 #[.int .i64 9, .int .i64 l[k].slot, .complex .f64 l[k].re l[k].im])
        have b0 := HBX.out.cell 0
        have HS : Hid (∀ W, Below (wr.alloc (.cells #[.int .i64 9, .int .i64 l[k].slot, .complex .f64 l[k].re l[k].im] 43)).heap.size (wr.alloc (.cells #[.int .i64 9, .int .i64 l[k].slot, .complex .f64 l[k].re l[k].im] 43)) W → (W.cell? ⟨wr.heap.size, 0, none⟩ = some (.int .i64 9) ∧ W.cell? ⟨gs, s0.length * 2, none⟩ = some (tx a.txt) ∧ W.cell? ⟨gs, s0.length * 2 + 1, none⟩ = some (.int .i64 (a.str : Int)) ∧ W.cell? ⟨gs, s0.length * 2 + 2, none⟩ = some (tx b.txt) ∧ W.cell? ⟨gs, s0.length * 2 + 3, none⟩ = some (.int .i64 (b.str : Int)))) := Lib.hid fun W hW => ⟨lit_on b0 hW, lit_on (lit_on r0 (bl_alloc (Below.refl _ _) _)) hW, lit_on (lit_on r1 (bl_alloc (Below.refl _ _) _)) hW, lit_on (lit_on r2 (bl_alloc (Below.refl _ _) _)) hW, lit_on (lit_on r3 (bl_alloc (Below.refl _ _) _)) hW⟩
        clear r0 r1 r2 r3
        go_upto_region 11 with fail
        refine wp_region_held_drew (S := fun W => W.cell? ⟨wr.heap.size, 0, none⟩ = some (.int .i64 9) ∧ W.cell? ⟨gs, s0.length * 2, none⟩ = some (tx a.txt) ∧ W.cell? ⟨gs, s0.length * 2 + 1, none⟩ = some (.int .i64 (a.str : Int)) ∧ W.cell? ⟨gs, s0.length * 2 + 2, none⟩ = some (tx b.txt) ∧ W.cell? ⟨gs, s0.length * 2 + 3, none⟩ = some (.int .i64 (b.str : Int))) (by kernel_rfl) ?_ (fun hHeld => ?_)
        · exact HS.out _ (by repeat (first | exact Below.refl _ _ | assumption | refine bl_drew ?_ | refine bl_alloc ?_ _ | refine bl_call ?_ (by assumption)))
        refine wpAnyH_take (i := 0) (v := ?_) rfl (by kernel_rfl) (by kernel_rfl) (by kernel_rfl) (fun _ _ _ h => h) (Or.inl ⟨by rfl, ?_⟩) (by assumption) ?_
        rotate_left
        · intro W hSW
          (try dsimp only at hSW)
          obtain ⟨z0, z1, z2, z4, z5⟩ := hSW
          go_simp
          try with_reducible rfl
        try simp only [Act.put, List.setIfInBounds_toArray, List.set_cons_zero, List.set_cons_succ]
        refine wpAnyH_take (i := 1) (v := ?_) rfl (by kernel_rfl) (by kernel_rfl) (by kernel_rfl) (fun _ _ _ h => h) (Or.inl ⟨by rfl, ?_⟩) (by assumption) ?_
        rotate_left
        · intro W hSW
          (try dsimp only at hSW)
          obtain ⟨z0, z1, z2, z4, z5⟩ := hSW
          go_simp
          try with_reducible rfl
        try simp only [Act.put, List.setIfInBounds_toArray, List.set_cons_zero, List.set_cons_succ]
        refine wpAnyH_take (i := 2) (v := ?_) rfl (by kernel_rfl) (by kernel_rfl) (by kernel_rfl) (fun _ _ _ h => h) (Or.inl ⟨by rfl, ?_⟩) (by assumption) ?_
        rotate_left
        · intro W hSW
          (try dsimp only at hSW)
          obtain ⟨z0, z1, z2, z4, z5⟩ := hSW
          go_simp
          try with_reducible rfl
        try simp only [Act.put, List.setIfInBounds_toArray, List.set_cons_zero, List.set_cons_succ]
        refine wpAnyH_take (i := 3) (v := ?_) rfl (by kernel_rfl) (by kernel_rfl) (by kernel_rfl) (fun _ _ _ h => h) (Or.inl ⟨by rfl, ?_⟩) (by assumption) ?_
        rotate_left
        · intro W hSW
          (try dsimp only at hSW)
          obtain ⟨z0, z1, z2, z4, z5⟩ := hSW
          go_simp
          try with_reducible rfl
        try simp only [Act.put, List.setIfInBounds_toArray, List.set_cons_zero, List.set_cons_succ]
        refine wpAnyH_take (i := 6) (v := ?_) rfl (by kernel_rfl) (by kernel_rfl) (by kernel_rfl) (fun _ _ _ h => h) (Or.inl ⟨by rfl, ?_⟩) (by assumption) ?_
        rotate_left
        · intro W hSW
          (try dsimp only at hSW)
          obtain ⟨z0, z1, z2, z4, z5⟩ := hSW
          go_simp
          try with_reducible rfl
        try simp only [Act.put, List.setIfInBounds_toArray, List.set_cons_zero, List.set_cons_succ]
        refine wpAnyH_take (i := 7) (v := ?_) rfl (by kernel_rfl) (by kernel_rfl) (by kernel_rfl) (fun _ _ _ h => h) (Or.inl ⟨by rfl, ?_⟩) (by assumption) ?_
        rotate_left
        · intro W hSW
          (try dsimp only at hSW)
          obtain ⟨z0, z1, z2, z4, z5⟩ := hSW
          go_simp
          try with_reducible rfl
        try simp only [Act.put, List.setIfInBounds_toArray, List.set_cons_zero, List.set_cons_succ]
        refine wpAnyH_take (i := 8) (v := ?_) rfl (by kernel_rfl) (by kernel_rfl) (by kernel_rfl) (fun _ _ _ h => h) (Or.inl ⟨by rfl, ?_⟩) (by assumption) ?_
        rotate_left
        · intro W hSW
          (try dsimp only at hSW)
          obtain ⟨z0, z1, z2, z4, z5⟩ := hSW
          go_simp
          try with_reducible rfl
        try simp only [Act.put, List.setIfInBounds_toArray, List.set_cons_zero, List.set_cons_succ]
        refine wpAnyH_take (i := 12) (v := ?_) rfl (by kernel_rfl) (by kernel_rfl) (by kernel_rfl) (fun _ _ _ h => h) (Or.inl ⟨by rfl, ?_⟩) (by assumption) ?_
        rotate_left
        · intro W hSW
          (try dsimp only at hSW)
          obtain ⟨z0, z1, z2, z4, z5⟩ := hSW
          go_simp
          try with_reducible rfl
        try simp only [Act.put, List.setIfInBounds_toArray, List.set_cons_zero, List.set_cons_succ]
        refine wpAnyH_take (i := 13) (v := ?_) rfl (by kernel_rfl) (by kernel_rfl) (by kernel_rfl) (fun _ _ _ h => h) (Or.inl ⟨by rfl, ?_⟩) (by assumption) ?_
        rotate_left
        · intro W hSW
          (try dsimp only at hSW)
          obtain ⟨z0, z1, z2, z4, z5⟩ := hSW
          go_simp
          try with_reducible rfl
        try simp only [Act.put, List.setIfInBounds_toArray, List.set_cons_zero, List.set_cons_succ]
        refine wpAnyH_take (i := 14) (v := ?_) rfl (by kernel_rfl) (by kernel_rfl) (by kernel_rfl) (fun _ _ _ h => h) (Or.inl ⟨by rfl, ?_⟩) (by assumption) ?_
        rotate_left
        · intro W hSW
          (try dsimp only at hSW)
          obtain ⟨z0, z1, z2, z4, z5⟩ := hSW
          go_simp
          try with_reducible rfl
        try simp only [Act.put, List.setIfInBounds_toArray, List.set_cons_zero, List.set_cons_succ]
        refine wpAnyH_take (i := 15) (v := ?_) rfl (by kernel_rfl) (by kernel_rfl) (by kernel_rfl) (fun _ _ _ h => h) (Or.inl ⟨by rfl, ?_⟩) (by assumption) ?_
        rotate_left
        · intro W hSW
          (try dsimp only at hSW)
          obtain ⟨z0, z1, z2, z4, z5⟩ := hSW
          go_simp
          try with_reducible rfl
        try simp only [Act.put, List.setIfInBounds_toArray, List.set_cons_zero, List.set_cons_succ]
        refine wpAnyH_take (i := 16) (v := ?_) rfl (by kernel_rfl) (by kernel_rfl) (by kernel_rfl) (fun _ _ _ h => h) (Or.inl ⟨by rfl, ?_⟩) (by assumption) ?_
        rotate_left
        · intro W hSW
          (try dsimp only at hSW)
          obtain ⟨z0, z1, z2, z4, z5⟩ := hSW
          go_simp
          try with_reducible rfl
        try simp only [Act.put, List.setIfInBounds_toArray, List.set_cons_zero, List.set_cons_succ]
        refine wpAnyH_ready (rs := [4, 5]) (by kernel_rfl) (by simp) ?_
        refine AllReadyH.cons rfl (fun K hK => ?_) (AllReadyH.cons rfl (fun K hK => ?_) (AllReadyH.nil))
        · go_simp
          refine (inside_is a.txt a.str 2 _ rfl htl _).mono ?_
          rintro e w5 ⟨rfl, hb5⟩
          go_simp
          refine hK.out _ _ ?_ (fun hHeld => ?_)
          · exact HS.out _ (by repeat (first | exact Below.refl _ _ | assumption | refine bl_drew ?_ | refine bl_alloc ?_ _ | refine bl_call ?_ (by assumption)))
          clear hK K
          try simp only [Act.put, List.setIfInBounds_toArray, List.set_cons_zero, List.set_cons_succ]
          refine wpAnyH_ready (rs := [5, 17]) (by kernel_rfl) (by simp) ?_
          refine AllReadyH.cons rfl (fun K hK => ?_) (AllReadyH.cons rfl (fun K hK => ?_) (AllReadyH.nil))
          · go_simp
            refine hK.out _ _ ?_ (fun hHeld => ?_)
            · exact HS.out _ (by repeat (first | exact Below.refl _ _ | assumption | refine bl_drew ?_ | refine bl_alloc ?_ _ | refine bl_call ?_ (by assumption)))
            clear hK K
            try simp only [Act.put, List.setIfInBounds_toArray, List.set_cons_zero, List.set_cons_succ]
            refine wpAnyH_more (S' := fun W => (W.cell? ⟨wr.heap.size, 0, none⟩ = some (.int .i64 9) ∧ W.cell? ⟨gs, s0.length * 2, none⟩ = some (tx a.txt) ∧ W.cell? ⟨gs, s0.length * 2 + 1, none⟩ = some (.int .i64 (a.str : Int)) ∧ W.cell? ⟨gs, s0.length * 2 + 2, none⟩ = some (tx b.txt) ∧ W.cell? ⟨gs, s0.length * 2 + 3, none⟩ = some (.int .i64 (b.str : Int))) ∧ W.cell? ⟨w5.heap.size, 1, none⟩ = some (.string ⟨#[32, 45, 32]⟩)) (fun _ h => h.1) ?_ (fun hHeld2 => ?_)
            · exact ⟨hHeld, (Blk.new_at w5 9 #[.string ⟨#[32, 43, 32]⟩, .string ⟨#[32, 45, 32]⟩, .string ⟨#[32, 42, 32]⟩, .string ⟨#[32, 47, 32]⟩, .string ⟨#[32, 61, 32]⟩] (g := w5.heap.size) (by first | rfl | (rw [World.size_alloc]; done) | (simp; done))).cell 1⟩
            have hLit := hHeld2.2
            refine wpAnyH_take (i := 9) (v := ?_) rfl (by kernel_rfl) (by kernel_rfl) (by kernel_rfl) (fun _ _ _ h => h) (Or.inl ⟨by rfl, ?_⟩) (by assumption) ?_
            rotate_left
            · intro W hSW
              (try dsimp only at hSW)
              obtain ⟨⟨z0, z1, z2, z4, z5⟩, z3⟩ := hSW
              go_simp
              try with_reducible rfl
            try simp only [Act.put, List.setIfInBounds_toArray, List.set_cons_zero, List.set_cons_succ]
            refine wpAnyH_take (i := 10) (v := ?_) rfl (by kernel_rfl) (by kernel_rfl) (by kernel_rfl) (fun _ _ _ h => h) (Or.inl ⟨by rfl, ?_⟩) (by assumption) ?_
            rotate_left
            · intro W hSW
              (try dsimp only at hSW)
              obtain ⟨⟨z0, z1, z2, z4, z5⟩, z3⟩ := hSW
              go_simp
              try with_reducible rfl
            try simp only [Act.put, List.setIfInBounds_toArray, List.set_cons_zero, List.set_cons_succ]
            refine wpAnyH_take (i := 11) (v := ?_) rfl (by kernel_rfl) (by kernel_rfl) (by kernel_rfl) (fun _ _ _ h => h) (Or.inl ⟨by rfl, ?_⟩) (by assumption) ?_
            rotate_left
            · intro W hSW
              (try dsimp only at hSW)
              obtain ⟨⟨z0, z1, z2, z4, z5⟩, z3⟩ := hSW
              go_simp
              try with_reducible rfl
            try simp only [Act.put, List.setIfInBounds_toArray, List.set_cons_zero, List.set_cons_succ]
            refine wpAnyH_ready (rs := [17]) (by kernel_rfl) (by simp) ?_
            refine AllReadyH.cons rfl (fun K hK => ?_) (AllReadyH.nil)
            · go_simp
              refine (inside_is b.txt b.str 3 _ rfl htlb _).mono ?_
              rintro e w6 ⟨rfl, hb6⟩
              go_simp
              refine hK.out _ _ ?_ (fun hHeld => ?_)
              · exact ⟨HS.out _ (by repeat (first | exact Below.refl _ _ | assumption | refine bl_drew ?_ | refine bl_alloc ?_ _ | refine bl_call ?_ (by assumption))), lit_on hLit hb6⟩
              have hLit := hHeld.2
              clear hK K
              try simp only [Act.put, List.setIfInBounds_toArray, List.set_cons_zero, List.set_cons_succ]
              refine wpAnyH_take (i := 18) (v := ?_) rfl (by kernel_rfl) (by kernel_rfl) (by kernel_rfl) (fun _ _ _ h => h) (Or.inl ⟨by rfl, ?_⟩) (by assumption) ?_
              rotate_left
              · intro W hSW
                (try dsimp only at hSW)
                obtain ⟨⟨z0, z1, z2, z4, z5⟩, z3⟩ := hSW
                go_simp
                try with_reducible rfl
              try simp only [Act.put, List.setIfInBounds_toArray, List.set_cons_zero, List.set_cons_succ]
              refine wpAnyH_take (i := 19) (v := ?_) rfl (by kernel_rfl) (by kernel_rfl) (by kernel_rfl) (fun _ _ _ h => h) (Or.inl ⟨by rfl, ?_⟩) (by assumption) ?_
              rotate_left
              · intro W hSW
                (try dsimp only at hSW)
                obtain ⟨⟨z0, z1, z2, z4, z5⟩, z3⟩ := hSW
                go_simp
                try with_reducible rfl
              try simp only [Act.put, List.setIfInBounds_toArray, List.set_cons_zero, List.set_cons_succ]
              refine wpAnyH_done (by kernel_rfl) ?_ _
              have HOW := Lib.hid (own_below HO.out (show Below wr.heap.size wr w6 from bl_call (bl_alloc (Below.refl _ wr) (.cells #[.int .i64 9, .int .i64 l[k].slot, .complex .f64 l[k].re l[k].im] 43)) (by repeat (first | exact Below.refl _ _ | assumption | refine bl_drew ?_ | refine bl_alloc ?_ _ | refine bl_call ?_ (by assumption)))))
              have HBW := Lib.hid (show Below w.heap.size w w6 from bl_call HB2.out (by repeat (first | exact Below.refl _ _ | assumption | refine bl_drew ?_ | refine bl_alloc ?_ _ | refine bl_call ?_ (by assumption))))
              have hsW := HBW.out.size
              go_wp2_with (first | (at_builtin; refine wpList_append_lies _ rfl (.tmp 98) (.tmp 102) 40 rfl w.heap.size 49 i0 (.agg #[.string ⟨#[]⟩, .int .i64 0]) 2 24 Tryd.underlying40 hi hz0 hz1 hz2 rfl (by decide) _ _ _ rfl (HOW.out.alloc _) ⟨_, 0, none⟩ 1 1 ([.string (((⟨(ins 2 a.txt a.str).toArray⟩ : ByteArray) ++ ⟨#[32, 45, 32]⟩) ++ ⟨(ins 3 b.txt b.str).toArray⟩), .int .i64 2]) rfl rfl ?c1 ?c2 (by decide) ?c3 ?c4 ?c5 _ rfl ?_))
              case c1 => exact wt_news2 _ _ _ _ (by first | rfl | (rw [World.size_alloc]; done) | (simp; done))
              case c2 => exact wt_one2 _ _ rfl rfl
              case c3 => unfold maxLen; omega
              case c4 => omega
              case c5 => first | (rw [World.size_alloc]; omega) | exact (bl_alloc HBW.out _).size
              · intro g' cap' w9 hown' hgrow _ _
                have HN := Lib.hid (HNX.out (.two l[k] a b) HTO.out HTF.out _ _ _ _ _ _ _ _ HBW.out rfl (by rw [HXS.out]) hown' hgrow HROW.out)
                clear hown' hgrow
                go_wp2
                case roundEnd => exact HN.out
          · go_simp
            refine (inside_is b.txt b.str 3 _ rfl htlb _).mono ?_
            rintro e w6 ⟨rfl, hb6⟩
            go_simp
            refine hK.out _ _ ?_ (fun hHeld => ?_)
            · exact HS.out _ (by repeat (first | exact Below.refl _ _ | assumption | refine bl_drew ?_ | refine bl_alloc ?_ _ | refine bl_call ?_ (by assumption)))
            clear hK K
            try simp only [Act.put, List.setIfInBounds_toArray, List.set_cons_zero, List.set_cons_succ]
            refine wpAnyH_ready (rs := [5]) (by kernel_rfl) (by simp) ?_
            refine AllReadyH.cons rfl (fun K hK => ?_) (AllReadyH.nil)
            · go_simp
              refine hK.out _ _ ?_ (fun hHeld => ?_)
              · exact HS.out _ (by repeat (first | exact Below.refl _ _ | assumption | refine bl_drew ?_ | refine bl_alloc ?_ _ | refine bl_call ?_ (by assumption)))
              clear hK K
              try simp only [Act.put, List.setIfInBounds_toArray, List.set_cons_zero, List.set_cons_succ]
              refine wpAnyH_more (S' := fun W => (W.cell? ⟨wr.heap.size, 0, none⟩ = some (.int .i64 9) ∧ W.cell? ⟨gs, s0.length * 2, none⟩ = some (tx a.txt) ∧ W.cell? ⟨gs, s0.length * 2 + 1, none⟩ = some (.int .i64 (a.str : Int)) ∧ W.cell? ⟨gs, s0.length * 2 + 2, none⟩ = some (tx b.txt) ∧ W.cell? ⟨gs, s0.length * 2 + 3, none⟩ = some (.int .i64 (b.str : Int))) ∧ W.cell? ⟨w6.heap.size, 1, none⟩ = some (.string ⟨#[32, 45, 32]⟩)) (fun _ h => h.1) ?_ (fun hHeld2 => ?_)
              · exact ⟨hHeld, (Blk.new_at w6 9 #[.string ⟨#[32, 43, 32]⟩, .string ⟨#[32, 45, 32]⟩, .string ⟨#[32, 42, 32]⟩, .string ⟨#[32, 47, 32]⟩, .string ⟨#[32, 61, 32]⟩] (g := w6.heap.size) (by first | rfl | (rw [World.size_alloc]; done) | (simp; done))).cell 1⟩
              have hLit := hHeld2.2
              refine wpAnyH_take (i := 9) (v := ?_) rfl (by kernel_rfl) (by kernel_rfl) (by kernel_rfl) (fun _ _ _ h => h) (Or.inl ⟨by rfl, ?_⟩) (by assumption) ?_
              rotate_left
              · intro W hSW
                (try dsimp only at hSW)
                obtain ⟨⟨z0, z1, z2, z4, z5⟩, z3⟩ := hSW
                go_simp
                try with_reducible rfl
              try simp only [Act.put, List.setIfInBounds_toArray, List.set_cons_zero, List.set_cons_succ]
              refine wpAnyH_take (i := 10) (v := ?_) rfl (by kernel_rfl) (by kernel_rfl) (by kernel_rfl) (fun _ _ _ h => h) (Or.inl ⟨by rfl, ?_⟩) (by assumption) ?_
              rotate_left
              · intro W hSW
                (try dsimp only at hSW)
                obtain ⟨⟨z0, z1, z2, z4, z5⟩, z3⟩ := hSW
                go_simp
                try with_reducible rfl
              try simp only [Act.put, List.setIfInBounds_toArray, List.set_cons_zero, List.set_cons_succ]
              refine wpAnyH_take (i := 11) (v := ?_) rfl (by kernel_rfl) (by kernel_rfl) (by kernel_rfl) (fun _ _ _ h => h) (Or.inl ⟨by rfl, ?_⟩) (by assumption) ?_
              rotate_left
              · intro W hSW
                (try dsimp only at hSW)
                obtain ⟨⟨z0, z1, z2, z4, z5⟩, z3⟩ := hSW
                go_simp
                try with_reducible rfl
              try simp only [Act.put, List.setIfInBounds_toArray, List.set_cons_zero, List.set_cons_succ]
              refine wpAnyH_take (i := 18) (v := ?_) rfl (by kernel_rfl) (by kernel_rfl) (by kernel_rfl) (fun _ _ _ h => h) (Or.inl ⟨by rfl, ?_⟩) (by assumption) ?_
              rotate_left
              · intro W hSW
                (try dsimp only at hSW)
                obtain ⟨⟨z0, z1, z2, z4, z5⟩, z3⟩ := hSW
                go_simp
                try with_reducible rfl
              try simp only [Act.put, List.setIfInBounds_toArray, List.set_cons_zero, List.set_cons_succ]
              refine wpAnyH_take (i := 19) (v := ?_) rfl (by kernel_rfl) (by kernel_rfl) (by kernel_rfl) (fun _ _ _ h => h) (Or.inl ⟨by rfl, ?_⟩) (by assumption) ?_
              rotate_left
              · intro W hSW
                (try dsimp only at hSW)
                obtain ⟨⟨z0, z1, z2, z4, z5⟩, z3⟩ := hSW
                go_simp
                try with_reducible rfl
              try simp only [Act.put, List.setIfInBounds_toArray, List.set_cons_zero, List.set_cons_succ]
              refine wpAnyH_done (by kernel_rfl) ?_ _
              have HOW := Lib.hid (own_below HO.out (show Below wr.heap.size wr (w6.alloc (.cells #[.string ⟨#[32, 43, 32]⟩, .string ⟨#[32, 45, 32]⟩, .string ⟨#[32, 42, 32]⟩, .string ⟨#[32, 47, 32]⟩, .string ⟨#[32, 61, 32]⟩] 9)) from bl_call (bl_alloc (Below.refl _ wr) (.cells #[.int .i64 9, .int .i64 l[k].slot, .complex .f64 l[k].re l[k].im] 43)) (by repeat (first | exact Below.refl _ _ | assumption | refine bl_drew ?_ | refine bl_alloc ?_ _ | refine bl_call ?_ (by assumption)))))
              have HBW := Lib.hid (show Below w.heap.size w (w6.alloc (.cells #[.string ⟨#[32, 43, 32]⟩, .string ⟨#[32, 45, 32]⟩, .string ⟨#[32, 42, 32]⟩, .string ⟨#[32, 47, 32]⟩, .string ⟨#[32, 61, 32]⟩] 9)) from bl_call HB2.out (by repeat (first | exact Below.refl _ _ | assumption | refine bl_drew ?_ | refine bl_alloc ?_ _ | refine bl_call ?_ (by assumption))))
              have hsW := HBW.out.size
              go_wp2_with (first | (at_builtin; refine wpList_append_lies _ rfl (.tmp 98) (.tmp 102) 40 rfl w.heap.size 49 i0 (.agg #[.string ⟨#[]⟩, .int .i64 0]) 2 24 Tryd.underlying40 hi hz0 hz1 hz2 rfl (by decide) _ _ _ rfl (HOW.out.alloc _) ⟨_, 0, none⟩ 1 1 ([.string (((⟨(ins 2 a.txt a.str).toArray⟩ : ByteArray) ++ ⟨#[32, 45, 32]⟩) ++ ⟨(ins 3 b.txt b.str).toArray⟩), .int .i64 2]) rfl rfl ?c1 ?c2 (by decide) ?c3 ?c4 ?c5 _ rfl ?_))
              case c1 => exact wt_news2 _ _ _ _ (by first | rfl | (rw [World.size_alloc]; done) | (simp; done))
              case c2 => exact wt_one2 _ _ rfl rfl
              case c3 => unfold maxLen; omega
              case c4 => omega
              case c5 => first | (rw [World.size_alloc]; omega) | exact (bl_alloc HBW.out _).size
              · intro g' cap' w9 hown' hgrow _ _
                have HN := Lib.hid (HNX.out (.two l[k] a b) HTO.out HTF.out _ _ _ _ _ _ _ _ HBW.out rfl (by rw [HXS.out]) hown' hgrow HROW.out)
                clear hown' hgrow
                go_wp2
                case roundEnd => exact HN.out
        · go_simp
          refine hK.out _ _ ?_ (fun hHeld => ?_)
          · exact HS.out _ (by repeat (first | exact Below.refl _ _ | assumption | refine bl_drew ?_ | refine bl_alloc ?_ _ | refine bl_call ?_ (by assumption)))
          clear hK K
          try simp only [Act.put, List.setIfInBounds_toArray, List.set_cons_zero, List.set_cons_succ]
          refine wpAnyH_more (S' := fun W => (W.cell? ⟨wr.heap.size, 0, none⟩ = some (.int .i64 9) ∧ W.cell? ⟨gs, s0.length * 2, none⟩ = some (tx a.txt) ∧ W.cell? ⟨gs, s0.length * 2 + 1, none⟩ = some (.int .i64 (a.str : Int)) ∧ W.cell? ⟨gs, s0.length * 2 + 2, none⟩ = some (tx b.txt) ∧ W.cell? ⟨gs, s0.length * 2 + 3, none⟩ = some (.int .i64 (b.str : Int))) ∧ W.cell? ⟨wr.heap.size + 1, 1, none⟩ = some (.string ⟨#[32, 45, 32]⟩)) (fun _ h => h.1) ?_ (fun hHeld2 => ?_)
          · exact ⟨hHeld, (Blk.new_at (wr.alloc (.cells #[.int .i64 9, .int .i64 l[k].slot, .complex .f64 l[k].re l[k].im] 43)) 9 #[.string ⟨#[32, 43, 32]⟩, .string ⟨#[32, 45, 32]⟩, .string ⟨#[32, 42, 32]⟩, .string ⟨#[32, 47, 32]⟩, .string ⟨#[32, 61, 32]⟩] (g := wr.heap.size + 1) (by first | rfl | (rw [World.size_alloc]; done) | (simp; done))).cell 1⟩
          have hLit := hHeld2.2
          refine wpAnyH_take (i := 9) (v := ?_) rfl (by kernel_rfl) (by kernel_rfl) (by kernel_rfl) (fun _ _ _ h => h) (Or.inl ⟨by rfl, ?_⟩) (by assumption) ?_
          rotate_left
          · intro W hSW
            (try dsimp only at hSW)
            obtain ⟨⟨z0, z1, z2, z4, z5⟩, z3⟩ := hSW
            go_simp
            try with_reducible rfl
          try simp only [Act.put, List.setIfInBounds_toArray, List.set_cons_zero, List.set_cons_succ]
          refine wpAnyH_take (i := 10) (v := ?_) rfl (by kernel_rfl) (by kernel_rfl) (by kernel_rfl) (fun _ _ _ h => h) (Or.inl ⟨by rfl, ?_⟩) (by assumption) ?_
          rotate_left
          · intro W hSW
            (try dsimp only at hSW)
            obtain ⟨⟨z0, z1, z2, z4, z5⟩, z3⟩ := hSW
            go_simp
            try with_reducible rfl
          try simp only [Act.put, List.setIfInBounds_toArray, List.set_cons_zero, List.set_cons_succ]
          refine wpAnyH_ready (rs := [4]) (by kernel_rfl) (by simp) ?_
          refine AllReadyH.cons rfl (fun K hK => ?_) (AllReadyH.nil)
          · go_simp
            refine (inside_is a.txt a.str 2 _ rfl htl _).mono ?_
            rintro e w5 ⟨rfl, hb5⟩
            go_simp
            refine hK.out _ _ ?_ (fun hHeld => ?_)
            · exact ⟨HS.out _ (by repeat (first | exact Below.refl _ _ | assumption | refine bl_drew ?_ | refine bl_alloc ?_ _ | refine bl_call ?_ (by assumption))), lit_on hLit hb5⟩
            have hLit := hHeld.2
            clear hK K
            try simp only [Act.put, List.setIfInBounds_toArray, List.set_cons_zero, List.set_cons_succ]
            refine wpAnyH_take (i := 11) (v := ?_) rfl (by kernel_rfl) (by kernel_rfl) (by kernel_rfl) (fun _ _ _ h => h) (Or.inl ⟨by rfl, ?_⟩) (by assumption) ?_
            rotate_left
            · intro W hSW
              (try dsimp only at hSW)
              obtain ⟨⟨z0, z1, z2, z4, z5⟩, z3⟩ := hSW
              go_simp
              try with_reducible rfl
            try simp only [Act.put, List.setIfInBounds_toArray, List.set_cons_zero, List.set_cons_succ]
            refine wpAnyH_ready (rs := [17]) (by kernel_rfl) (by simp) ?_
            refine AllReadyH.cons rfl (fun K hK => ?_) (AllReadyH.nil)
            · go_simp
              refine (inside_is b.txt b.str 3 _ rfl htlb _).mono ?_
              rintro e w6 ⟨rfl, hb6⟩
              go_simp
              refine hK.out _ _ ?_ (fun hHeld => ?_)
              · exact ⟨HS.out _ (by repeat (first | exact Below.refl _ _ | assumption | refine bl_drew ?_ | refine bl_alloc ?_ _ | refine bl_call ?_ (by assumption))), lit_on hLit hb6⟩
              have hLit := hHeld.2
              clear hK K
              try simp only [Act.put, List.setIfInBounds_toArray, List.set_cons_zero, List.set_cons_succ]
              refine wpAnyH_take (i := 18) (v := ?_) rfl (by kernel_rfl) (by kernel_rfl) (by kernel_rfl) (fun _ _ _ h => h) (Or.inl ⟨by rfl, ?_⟩) (by assumption) ?_
              rotate_left
              · intro W hSW
                (try dsimp only at hSW)
                obtain ⟨⟨z0, z1, z2, z4, z5⟩, z3⟩ := hSW
                go_simp
                try with_reducible rfl
              try simp only [Act.put, List.setIfInBounds_toArray, List.set_cons_zero, List.set_cons_succ]
              refine wpAnyH_take (i := 19) (v := ?_) rfl (by kernel_rfl) (by kernel_rfl) (by kernel_rfl) (fun _ _ _ h => h) (Or.inl ⟨by rfl, ?_⟩) (by assumption) ?_
              rotate_left
              · intro W hSW
                (try dsimp only at hSW)
                obtain ⟨⟨z0, z1, z2, z4, z5⟩, z3⟩ := hSW
                go_simp
                try with_reducible rfl
              try simp only [Act.put, List.setIfInBounds_toArray, List.set_cons_zero, List.set_cons_succ]
              refine wpAnyH_done (by kernel_rfl) ?_ _
              have HOW := Lib.hid (own_below HO.out (show Below wr.heap.size wr w6 from bl_call (bl_alloc (Below.refl _ wr) (.cells #[.int .i64 9, .int .i64 l[k].slot, .complex .f64 l[k].re l[k].im] 43)) (by repeat (first | exact Below.refl _ _ | assumption | refine bl_drew ?_ | refine bl_alloc ?_ _ | refine bl_call ?_ (by assumption)))))
              have HBW := Lib.hid (show Below w.heap.size w w6 from bl_call HB2.out (by repeat (first | exact Below.refl _ _ | assumption | refine bl_drew ?_ | refine bl_alloc ?_ _ | refine bl_call ?_ (by assumption))))
              have hsW := HBW.out.size
              go_wp2_with (first | (at_builtin; refine wpList_append_lies _ rfl (.tmp 98) (.tmp 102) 40 rfl w.heap.size 49 i0 (.agg #[.string ⟨#[]⟩, .int .i64 0]) 2 24 Tryd.underlying40 hi hz0 hz1 hz2 rfl (by decide) _ _ _ rfl (HOW.out.alloc _) ⟨_, 0, none⟩ 1 1 ([.string (((⟨(ins 2 a.txt a.str).toArray⟩ : ByteArray) ++ ⟨#[32, 45, 32]⟩) ++ ⟨(ins 3 b.txt b.str).toArray⟩), .int .i64 2]) rfl rfl ?c1 ?c2 (by decide) ?c3 ?c4 ?c5 _ rfl ?_))
              case c1 => exact wt_news2 _ _ _ _ (by first | rfl | (rw [World.size_alloc]; done) | (simp; done))
              case c2 => exact wt_one2 _ _ rfl rfl
              case c3 => unfold maxLen; omega
              case c4 => omega
              case c5 => first | (rw [World.size_alloc]; omega) | exact (bl_alloc HBW.out _).size
              · intro g' cap' w9 hown' hgrow _ _
                have HN := Lib.hid (HNX.out (.two l[k] a b) HTO.out HTF.out _ _ _ _ _ _ _ _ HBW.out rfl (by rw [HXS.out]) hown' hgrow HROW.out)
                clear hown' hgrow
                go_wp2
                case roundEnd => exact HN.out
      · obtain ⟨a, b, rfl⟩ : ∃ a b, ops = [a, b] := by
          have h2 : ops.length = 2 := by rw [hops, hkk]; rfl
          match ops, h2 with
          | [a, b], _ => exact ⟨a, b, rfl⟩
        rw [hkk] at x0
        have HKK := Lib.hid hkk
        have HAR := Lib.hid (show ar 10 = 2 from rfl)
        obtain ⟨hs0, hre, him⟩ : l[k].slot = 0 ∧ l[k].re = 0 ∧ l[k].im = 0 := by rcases hgx with ⟨h, _⟩ | ⟨h, _⟩ | ⟨_, a, b, c⟩ <;> first | exact ⟨a, b, c⟩ | omega
        have HX := Lib.hid (nd_op hs0 hre him)
        have hta := HOK.out a (by simp)
        have htb := HOK.out b (by simp)
        have HTO := Lib.hid (show TOk (.two l[k] a b) from TOk.two (by omega) (nd_op hs0 hre him) hta htb)
        have HTF := Lib.hid (show (Ex.two l[k] a b).flat = ([a, b] : List Ex).flatMap Ex.flat ++ [l[k]] by show a.flat ++ b.flat ++ [l[k]] = _; simp)
        have hfl60 : a.flat.length ≤ 60 := by
          have h1 := flat_le (a := a) (ts := s0 ++ [a, b]) (by simp)
          rw [HFL.out, List.length_take] at h1
          omega
        have hfl60b : b.flat.length ≤ 60 := by
          have h1 := flat_le (a := b) (ts := s0 ++ [a, b]) (by simp)
          rw [HFL.out, List.length_take] at h1
          omega
        have htl : a.txt.length ≤ 1000000 := by have := hta.2; omega
        have htlb : b.txt.length ≤ 1000000 := by have := htb.2; omega
        have HB2 := Lib.hid (bl_alloc HB.out (.cells #[.int .i64 10, .int .i64 l[k].slot, .complex .f64 l[k].re l[k].im] 43))
        clear hgx hops hre him hs0
        obtain ⟨gs, cs, hvs⟩ := Joins.ownsRow_form hown (by simp)
        subst hvs
        have hcs := own_cap2 hown
        have hcs2 : s0.length + 2 ≤ cs := by simpa using hcs
        have hgl : gs < wr.heap.size := (hown.lt gs rfl).2
        have r0 : wr.cell? ⟨gs, s0.length * 2, none⟩ = some (tx a.txt) := by simpa using wt_cell hown 0 (tx a.txt) rfl
        have r1 : wr.cell? ⟨gs, s0.length * 2 + 1, none⟩ = some (.int .i64 (a.str : Int)) := by simpa using wt_cell hown 1 (.int .i64 (a.str : Int)) rfl
        have r2 : wr.cell? ⟨gs, s0.length * 2 + 2, none⟩ = some (tx b.txt) := by simpa using wt_cell hown 2 (tx b.txt) rfl
        have r3 : wr.cell? ⟨gs, s0.length * 2 + 3, none⟩ = some (.int .i64 (b.str : Int)) := by simpa using wt_cell hown 3 (.int .i64 (b.str : Int)) rfl
        have HO : Hid (wr.ownsRow w.heap.size 49 2 (.slice (some ⟨gs, 0, none⟩) s0.length cs) s0.length (s0.flatMap wtCells)) := Lib.hid (by
          have h1 := hown
          rw [show (s0 ++ [a, b]).length = s0.length + 2 by simp] at h1
          have h2 := own_take2 h1 (k := s0.length) (by omega)
          rwa [wt_take] at h2)
        have HROW := Lib.hid (fun j (hj : (Value.slice (some ⟨gs, 0, none⟩) s0.length cs).ownBlock = some j) => (HO.out.lt j hj).1)
        have HXS : Hid (([.string (((⟨(ins 3 a.txt a.str).toArray⟩ : ByteArray) ++ ⟨#[32, 42, 32]⟩) ++ ⟨(ins 4 b.txt b.str).toArray⟩), .int .i64 3] : List Value) = wtCells (.two l[k] a b)) := Lib.hid (by
          have h1 : (Ex.two l[k] a b).txt = ins 3 a.txt a.str ++ ([32, 42, 32] ++ ins (3 + 1) b.txt b.str) := by
            show ins (stg l[k].kind) a.txt a.str ++ (opT l[k].kind ++ ins (stg l[k].kind + 1) b.txt b.str) = _
            rw [hkk]; rfl
          have h2 : (Ex.two l[k] a b).str = 3 := by show stg l[k].kind = _; rw [hkk]; rfl
          show _ = [tx (Ex.two l[k] a b).txt, .int .i64 ((Ex.two l[k] a b).str : Int)]
          rw [h1, h2, ← List.append_assoc, tx, ← cat, ← cat]
          rfl)
        have hwr0 : IntKind.i64.wrap 0 = 0 := by decide
        have hwr1 : IntKind.i64.wrap 1 = 1 := by decide
        have hwr2 : IntKind.i64.wrap 2 = 2 := by decide
        have hwr3 : IntKind.i64.wrap 3 = 3 := by decide
        have hwr4 : IntKind.i64.wrap 4 = 4 := by decide
        have hsg : ((stg 10 : Nat) : Int) = 3 := rfl
        have htl2 := ins_len 3 a.str a.txt
        have htl3 := ins_len 4 b.str b.txt
        have g1 : (9223372036854775807 < (ins 3 a.txt a.str).length + 3) = False := eq_false (by omega)
        have g2 : (9223372036854775807 < (ins 3 a.txt a.str).length + 3 + (ins 4 b.txt b.str).length) = False := eq_false (by omega)
        clear hown hkk
        go_wp2_with (first | (go_at_call 18; (with_reducible refine (strength_is 10 (by omega) _).mono ?_); rintro e w9 ⟨rfl, hw9⟩; have hw9x := hw9.symm; clear hw9; subst hw9x) | (go_at_call 19; (with_reducible refine (operands_is 10 2 _ HAR.out).mono ?_); rintro e w9 ⟨rfl, hw9⟩; have hw9x := hw9.symm; clear hw9; subst hw9x))
        have HBX := Lib.hid (Blk.new wr 43 #[.int .i64 10, .int .i64 l[k].slot, .complex .f64 l[k].re l[k].im])
        have b0 := HBX.out.cell 0
        have HS : Hid (∀ W, Below (wr.alloc (.cells #[.int .i64 10, .int .i64 l[k].slot, .complex .f64 l[k].re l[k].im] 43)).heap.size (wr.alloc (.cells #[.int .i64 10, .int .i64 l[k].slot, .complex .f64 l[k].re l[k].im] 43)) W → (W.cell? ⟨wr.heap.size, 0, none⟩ = some (.int .i64 10) ∧ W.cell? ⟨gs, s0.length * 2, none⟩ = some (tx a.txt) ∧ W.cell? ⟨gs, s0.length * 2 + 1, none⟩ = some (.int .i64 (a.str : Int)) ∧ W.cell? ⟨gs, s0.length * 2 + 2, none⟩ = some (tx b.txt) ∧ W.cell? ⟨gs, s0.length * 2 + 3, none⟩ = some (.int .i64 (b.str : Int)))) := Lib.hid fun W hW => ⟨lit_on b0 hW, lit_on (lit_on r0 (bl_alloc (Below.refl _ _) _)) hW, lit_on (lit_on r1 (bl_alloc (Below.refl _ _) _)) hW, lit_on (lit_on r2 (bl_alloc (Below.refl _ _) _)) hW, lit_on (lit_on r3 (bl_alloc (Below.refl _ _) _)) hW⟩
        clear r0 r1 r2 r3
        go_upto_region 11 with fail
        refine wp_region_held_drew (S := fun W => W.cell? ⟨wr.heap.size, 0, none⟩ = some (.int .i64 10) ∧ W.cell? ⟨gs, s0.length * 2, none⟩ = some (tx a.txt) ∧ W.cell? ⟨gs, s0.length * 2 + 1, none⟩ = some (.int .i64 (a.str : Int)) ∧ W.cell? ⟨gs, s0.length * 2 + 2, none⟩ = some (tx b.txt) ∧ W.cell? ⟨gs, s0.length * 2 + 3, none⟩ = some (.int .i64 (b.str : Int))) (by kernel_rfl) ?_ (fun hHeld => ?_)
        · exact HS.out _ (by repeat (first | exact Below.refl _ _ | assumption | refine bl_drew ?_ | refine bl_alloc ?_ _ | refine bl_call ?_ (by assumption)))
        refine wpAnyH_take (i := 0) (v := ?_) rfl (by kernel_rfl) (by kernel_rfl) (by kernel_rfl) (fun _ _ _ h => h) (Or.inl ⟨by rfl, ?_⟩) (by assumption) ?_
        rotate_left
        · intro W hSW
          (try dsimp only at hSW)
          obtain ⟨z0, z1, z2, z4, z5⟩ := hSW
          go_simp
          try with_reducible rfl
        try simp only [Act.put, List.setIfInBounds_toArray, List.set_cons_zero, List.set_cons_succ]
        refine wpAnyH_take (i := 1) (v := ?_) rfl (by kernel_rfl) (by kernel_rfl) (by kernel_rfl) (fun _ _ _ h => h) (Or.inl ⟨by rfl, ?_⟩) (by assumption) ?_
        rotate_left
        · intro W hSW
          (try dsimp only at hSW)
          obtain ⟨z0, z1, z2, z4, z5⟩ := hSW
          go_simp
          try with_reducible rfl
        try simp only [Act.put, List.setIfInBounds_toArray, List.set_cons_zero, List.set_cons_succ]
        refine wpAnyH_take (i := 2) (v := ?_) rfl (by kernel_rfl) (by kernel_rfl) (by kernel_rfl) (fun _ _ _ h => h) (Or.inl ⟨by rfl, ?_⟩) (by assumption) ?_
        rotate_left
        · intro W hSW
          (try dsimp only at hSW)
          obtain ⟨z0, z1, z2, z4, z5⟩ := hSW
          go_simp
          try with_reducible rfl
        try simp only [Act.put, List.setIfInBounds_toArray, List.set_cons_zero, List.set_cons_succ]
        refine wpAnyH_take (i := 3) (v := ?_) rfl (by kernel_rfl) (by kernel_rfl) (by kernel_rfl) (fun _ _ _ h => h) (Or.inl ⟨by rfl, ?_⟩) (by assumption) ?_
        rotate_left
        · intro W hSW
          (try dsimp only at hSW)
          obtain ⟨z0, z1, z2, z4, z5⟩ := hSW
          go_simp
          try with_reducible rfl
        try simp only [Act.put, List.setIfInBounds_toArray, List.set_cons_zero, List.set_cons_succ]
        refine wpAnyH_take (i := 6) (v := ?_) rfl (by kernel_rfl) (by kernel_rfl) (by kernel_rfl) (fun _ _ _ h => h) (Or.inl ⟨by rfl, ?_⟩) (by assumption) ?_
        rotate_left
        · intro W hSW
          (try dsimp only at hSW)
          obtain ⟨z0, z1, z2, z4, z5⟩ := hSW
          go_simp
          try with_reducible rfl
        try simp only [Act.put, List.setIfInBounds_toArray, List.set_cons_zero, List.set_cons_succ]
        refine wpAnyH_take (i := 7) (v := ?_) rfl (by kernel_rfl) (by kernel_rfl) (by kernel_rfl) (fun _ _ _ h => h) (Or.inl ⟨by rfl, ?_⟩) (by assumption) ?_
        rotate_left
        · intro W hSW
          (try dsimp only at hSW)
          obtain ⟨z0, z1, z2, z4, z5⟩ := hSW
          go_simp
          try with_reducible rfl
        try simp only [Act.put, List.setIfInBounds_toArray, List.set_cons_zero, List.set_cons_succ]
        refine wpAnyH_take (i := 8) (v := ?_) rfl (by kernel_rfl) (by kernel_rfl) (by kernel_rfl) (fun _ _ _ h => h) (Or.inl ⟨by rfl, ?_⟩) (by assumption) ?_
        rotate_left
        · intro W hSW
          (try dsimp only at hSW)
          obtain ⟨z0, z1, z2, z4, z5⟩ := hSW
          go_simp
          try with_reducible rfl
        try simp only [Act.put, List.setIfInBounds_toArray, List.set_cons_zero, List.set_cons_succ]
        refine wpAnyH_take (i := 12) (v := ?_) rfl (by kernel_rfl) (by kernel_rfl) (by kernel_rfl) (fun _ _ _ h => h) (Or.inl ⟨by rfl, ?_⟩) (by assumption) ?_
        rotate_left
        · intro W hSW
          (try dsimp only at hSW)
          obtain ⟨z0, z1, z2, z4, z5⟩ := hSW
          go_simp
          try with_reducible rfl
        try simp only [Act.put, List.setIfInBounds_toArray, List.set_cons_zero, List.set_cons_succ]
        refine wpAnyH_take (i := 13) (v := ?_) rfl (by kernel_rfl) (by kernel_rfl) (by kernel_rfl) (fun _ _ _ h => h) (Or.inl ⟨by rfl, ?_⟩) (by assumption) ?_
        rotate_left
        · intro W hSW
          (try dsimp only at hSW)
          obtain ⟨z0, z1, z2, z4, z5⟩ := hSW
          go_simp
          try with_reducible rfl
        try simp only [Act.put, List.setIfInBounds_toArray, List.set_cons_zero, List.set_cons_succ]
        refine wpAnyH_take (i := 14) (v := ?_) rfl (by kernel_rfl) (by kernel_rfl) (by kernel_rfl) (fun _ _ _ h => h) (Or.inl ⟨by rfl, ?_⟩) (by assumption) ?_
        rotate_left
        · intro W hSW
          (try dsimp only at hSW)
          obtain ⟨z0, z1, z2, z4, z5⟩ := hSW
          go_simp
          try with_reducible rfl
        try simp only [Act.put, List.setIfInBounds_toArray, List.set_cons_zero, List.set_cons_succ]
        refine wpAnyH_take (i := 15) (v := ?_) rfl (by kernel_rfl) (by kernel_rfl) (by kernel_rfl) (fun _ _ _ h => h) (Or.inl ⟨by rfl, ?_⟩) (by assumption) ?_
        rotate_left
        · intro W hSW
          (try dsimp only at hSW)
          obtain ⟨z0, z1, z2, z4, z5⟩ := hSW
          go_simp
          try with_reducible rfl
        try simp only [Act.put, List.setIfInBounds_toArray, List.set_cons_zero, List.set_cons_succ]
        refine wpAnyH_take (i := 16) (v := ?_) rfl (by kernel_rfl) (by kernel_rfl) (by kernel_rfl) (fun _ _ _ h => h) (Or.inl ⟨by rfl, ?_⟩) (by assumption) ?_
        rotate_left
        · intro W hSW
          (try dsimp only at hSW)
          obtain ⟨z0, z1, z2, z4, z5⟩ := hSW
          go_simp
          try with_reducible rfl
        try simp only [Act.put, List.setIfInBounds_toArray, List.set_cons_zero, List.set_cons_succ]
        refine wpAnyH_ready (rs := [4, 5]) (by kernel_rfl) (by simp) ?_
        refine AllReadyH.cons rfl (fun K hK => ?_) (AllReadyH.cons rfl (fun K hK => ?_) (AllReadyH.nil))
        · go_simp
          refine (inside_is a.txt a.str 3 _ rfl htl _).mono ?_
          rintro e w5 ⟨rfl, hb5⟩
          go_simp
          refine hK.out _ _ ?_ (fun hHeld => ?_)
          · exact HS.out _ (by repeat (first | exact Below.refl _ _ | assumption | refine bl_drew ?_ | refine bl_alloc ?_ _ | refine bl_call ?_ (by assumption)))
          clear hK K
          try simp only [Act.put, List.setIfInBounds_toArray, List.set_cons_zero, List.set_cons_succ]
          refine wpAnyH_ready (rs := [5, 17]) (by kernel_rfl) (by simp) ?_
          refine AllReadyH.cons rfl (fun K hK => ?_) (AllReadyH.cons rfl (fun K hK => ?_) (AllReadyH.nil))
          · go_simp
            refine hK.out _ _ ?_ (fun hHeld => ?_)
            · exact HS.out _ (by repeat (first | exact Below.refl _ _ | assumption | refine bl_drew ?_ | refine bl_alloc ?_ _ | refine bl_call ?_ (by assumption)))
            clear hK K
            try simp only [Act.put, List.setIfInBounds_toArray, List.set_cons_zero, List.set_cons_succ]
            refine wpAnyH_more (S' := fun W => (W.cell? ⟨wr.heap.size, 0, none⟩ = some (.int .i64 10) ∧ W.cell? ⟨gs, s0.length * 2, none⟩ = some (tx a.txt) ∧ W.cell? ⟨gs, s0.length * 2 + 1, none⟩ = some (.int .i64 (a.str : Int)) ∧ W.cell? ⟨gs, s0.length * 2 + 2, none⟩ = some (tx b.txt) ∧ W.cell? ⟨gs, s0.length * 2 + 3, none⟩ = some (.int .i64 (b.str : Int))) ∧ W.cell? ⟨w5.heap.size, 2, none⟩ = some (.string ⟨#[32, 42, 32]⟩)) (fun _ h => h.1) ?_ (fun hHeld2 => ?_)
            · exact ⟨hHeld, (Blk.new_at w5 9 #[.string ⟨#[32, 43, 32]⟩, .string ⟨#[32, 45, 32]⟩, .string ⟨#[32, 42, 32]⟩, .string ⟨#[32, 47, 32]⟩, .string ⟨#[32, 61, 32]⟩] (g := w5.heap.size) (by first | rfl | (rw [World.size_alloc]; done) | (simp; done))).cell 2⟩
            have hLit := hHeld2.2
            refine wpAnyH_take (i := 9) (v := ?_) rfl (by kernel_rfl) (by kernel_rfl) (by kernel_rfl) (fun _ _ _ h => h) (Or.inl ⟨by rfl, ?_⟩) (by assumption) ?_
            rotate_left
            · intro W hSW
              (try dsimp only at hSW)
              obtain ⟨⟨z0, z1, z2, z4, z5⟩, z3⟩ := hSW
              go_simp
              try with_reducible rfl
            try simp only [Act.put, List.setIfInBounds_toArray, List.set_cons_zero, List.set_cons_succ]
            refine wpAnyH_take (i := 10) (v := ?_) rfl (by kernel_rfl) (by kernel_rfl) (by kernel_rfl) (fun _ _ _ h => h) (Or.inl ⟨by rfl, ?_⟩) (by assumption) ?_
            rotate_left
            · intro W hSW
              (try dsimp only at hSW)
              obtain ⟨⟨z0, z1, z2, z4, z5⟩, z3⟩ := hSW
              go_simp
              try with_reducible rfl
            try simp only [Act.put, List.setIfInBounds_toArray, List.set_cons_zero, List.set_cons_succ]
            refine wpAnyH_take (i := 11) (v := ?_) rfl (by kernel_rfl) (by kernel_rfl) (by kernel_rfl) (fun _ _ _ h => h) (Or.inl ⟨by rfl, ?_⟩) (by assumption) ?_
            rotate_left
            · intro W hSW
              (try dsimp only at hSW)
              obtain ⟨⟨z0, z1, z2, z4, z5⟩, z3⟩ := hSW
              go_simp
              try with_reducible rfl
            try simp only [Act.put, List.setIfInBounds_toArray, List.set_cons_zero, List.set_cons_succ]
            refine wpAnyH_ready (rs := [17]) (by kernel_rfl) (by simp) ?_
            refine AllReadyH.cons rfl (fun K hK => ?_) (AllReadyH.nil)
            · go_simp
              refine (inside_is b.txt b.str 4 _ rfl htlb _).mono ?_
              rintro e w6 ⟨rfl, hb6⟩
              go_simp
              refine hK.out _ _ ?_ (fun hHeld => ?_)
              · exact ⟨HS.out _ (by repeat (first | exact Below.refl _ _ | assumption | refine bl_drew ?_ | refine bl_alloc ?_ _ | refine bl_call ?_ (by assumption))), lit_on hLit hb6⟩
              have hLit := hHeld.2
              clear hK K
              try simp only [Act.put, List.setIfInBounds_toArray, List.set_cons_zero, List.set_cons_succ]
              refine wpAnyH_take (i := 18) (v := ?_) rfl (by kernel_rfl) (by kernel_rfl) (by kernel_rfl) (fun _ _ _ h => h) (Or.inl ⟨by rfl, ?_⟩) (by assumption) ?_
              rotate_left
              · intro W hSW
                (try dsimp only at hSW)
                obtain ⟨⟨z0, z1, z2, z4, z5⟩, z3⟩ := hSW
                go_simp
                try with_reducible rfl
              try simp only [Act.put, List.setIfInBounds_toArray, List.set_cons_zero, List.set_cons_succ]
              refine wpAnyH_take (i := 19) (v := ?_) rfl (by kernel_rfl) (by kernel_rfl) (by kernel_rfl) (fun _ _ _ h => h) (Or.inl ⟨by rfl, ?_⟩) (by assumption) ?_
              rotate_left
              · intro W hSW
                (try dsimp only at hSW)
                obtain ⟨⟨z0, z1, z2, z4, z5⟩, z3⟩ := hSW
                go_simp
                try with_reducible rfl
              try simp only [Act.put, List.setIfInBounds_toArray, List.set_cons_zero, List.set_cons_succ]
              refine wpAnyH_done (by kernel_rfl) ?_ _
              have HOW := Lib.hid (own_below HO.out (show Below wr.heap.size wr w6 from bl_call (bl_alloc (Below.refl _ wr) (.cells #[.int .i64 10, .int .i64 l[k].slot, .complex .f64 l[k].re l[k].im] 43)) (by repeat (first | exact Below.refl _ _ | assumption | refine bl_drew ?_ | refine bl_alloc ?_ _ | refine bl_call ?_ (by assumption)))))
              have HBW := Lib.hid (show Below w.heap.size w w6 from bl_call HB2.out (by repeat (first | exact Below.refl _ _ | assumption | refine bl_drew ?_ | refine bl_alloc ?_ _ | refine bl_call ?_ (by assumption))))
              have hsW := HBW.out.size
              go_wp2_with (first | (at_builtin; refine wpList_append_lies _ rfl (.tmp 98) (.tmp 102) 40 rfl w.heap.size 49 i0 (.agg #[.string ⟨#[]⟩, .int .i64 0]) 2 24 Tryd.underlying40 hi hz0 hz1 hz2 rfl (by decide) _ _ _ rfl (HOW.out.alloc _) ⟨_, 0, none⟩ 1 1 ([.string (((⟨(ins 3 a.txt a.str).toArray⟩ : ByteArray) ++ ⟨#[32, 42, 32]⟩) ++ ⟨(ins 4 b.txt b.str).toArray⟩), .int .i64 3]) rfl rfl ?c1 ?c2 (by decide) ?c3 ?c4 ?c5 _ rfl ?_))
              case c1 => exact wt_news2 _ _ _ _ (by first | rfl | (rw [World.size_alloc]; done) | (simp; done))
              case c2 => exact wt_one2 _ _ rfl rfl
              case c3 => unfold maxLen; omega
              case c4 => omega
              case c5 => first | (rw [World.size_alloc]; omega) | exact (bl_alloc HBW.out _).size
              · intro g' cap' w9 hown' hgrow _ _
                have HN := Lib.hid (HNX.out (.two l[k] a b) HTO.out HTF.out _ _ _ _ _ _ _ _ HBW.out rfl (by rw [HXS.out]) hown' hgrow HROW.out)
                clear hown' hgrow
                go_wp2
                case roundEnd => exact HN.out
          · go_simp
            refine (inside_is b.txt b.str 4 _ rfl htlb _).mono ?_
            rintro e w6 ⟨rfl, hb6⟩
            go_simp
            refine hK.out _ _ ?_ (fun hHeld => ?_)
            · exact HS.out _ (by repeat (first | exact Below.refl _ _ | assumption | refine bl_drew ?_ | refine bl_alloc ?_ _ | refine bl_call ?_ (by assumption)))
            clear hK K
            try simp only [Act.put, List.setIfInBounds_toArray, List.set_cons_zero, List.set_cons_succ]
            refine wpAnyH_ready (rs := [5]) (by kernel_rfl) (by simp) ?_
            refine AllReadyH.cons rfl (fun K hK => ?_) (AllReadyH.nil)
            · go_simp
              refine hK.out _ _ ?_ (fun hHeld => ?_)
              · exact HS.out _ (by repeat (first | exact Below.refl _ _ | assumption | refine bl_drew ?_ | refine bl_alloc ?_ _ | refine bl_call ?_ (by assumption)))
              clear hK K
              try simp only [Act.put, List.setIfInBounds_toArray, List.set_cons_zero, List.set_cons_succ]
              refine wpAnyH_more (S' := fun W => (W.cell? ⟨wr.heap.size, 0, none⟩ = some (.int .i64 10) ∧ W.cell? ⟨gs, s0.length * 2, none⟩ = some (tx a.txt) ∧ W.cell? ⟨gs, s0.length * 2 + 1, none⟩ = some (.int .i64 (a.str : Int)) ∧ W.cell? ⟨gs, s0.length * 2 + 2, none⟩ = some (tx b.txt) ∧ W.cell? ⟨gs, s0.length * 2 + 3, none⟩ = some (.int .i64 (b.str : Int))) ∧ W.cell? ⟨w6.heap.size, 2, none⟩ = some (.string ⟨#[32, 42, 32]⟩)) (fun _ h => h.1) ?_ (fun hHeld2 => ?_)
              · exact ⟨hHeld, (Blk.new_at w6 9 #[.string ⟨#[32, 43, 32]⟩, .string ⟨#[32, 45, 32]⟩, .string ⟨#[32, 42, 32]⟩, .string ⟨#[32, 47, 32]⟩, .string ⟨#[32, 61, 32]⟩] (g := w6.heap.size) (by first | rfl | (rw [World.size_alloc]; done) | (simp; done))).cell 2⟩
              have hLit := hHeld2.2
              refine wpAnyH_take (i := 9) (v := ?_) rfl (by kernel_rfl) (by kernel_rfl) (by kernel_rfl) (fun _ _ _ h => h) (Or.inl ⟨by rfl, ?_⟩) (by assumption) ?_
              rotate_left
              · intro W hSW
                (try dsimp only at hSW)
                obtain ⟨⟨z0, z1, z2, z4, z5⟩, z3⟩ := hSW
                go_simp
                try with_reducible rfl
              try simp only [Act.put, List.setIfInBounds_toArray, List.set_cons_zero, List.set_cons_succ]
              refine wpAnyH_take (i := 10) (v := ?_) rfl (by kernel_rfl) (by kernel_rfl) (by kernel_rfl) (fun _ _ _ h => h) (Or.inl ⟨by rfl, ?_⟩) (by assumption) ?_
              rotate_left
              · intro W hSW
                (try dsimp only at hSW)
                obtain ⟨⟨z0, z1, z2, z4, z5⟩, z3⟩ := hSW
                go_simp
                try with_reducible rfl
              try simp only [Act.put, List.setIfInBounds_toArray, List.set_cons_zero, List.set_cons_succ]
              refine wpAnyH_take (i := 11) (v := ?_) rfl (by kernel_rfl) (by kernel_rfl) (by kernel_rfl) (fun _ _ _ h => h) (Or.inl ⟨by rfl, ?_⟩) (by assumption) ?_
              rotate_left
              · intro W hSW
                (try dsimp only at hSW)
                obtain ⟨⟨z0, z1, z2, z4, z5⟩, z3⟩ := hSW
                go_simp
                try with_reducible rfl
              try simp only [Act.put, List.setIfInBounds_toArray, List.set_cons_zero, List.set_cons_succ]
              refine wpAnyH_take (i := 18) (v := ?_) rfl (by kernel_rfl) (by kernel_rfl) (by kernel_rfl) (fun _ _ _ h => h) (Or.inl ⟨by rfl, ?_⟩) (by assumption) ?_
              rotate_left
              · intro W hSW
                (try dsimp only at hSW)
                obtain ⟨⟨z0, z1, z2, z4, z5⟩, z3⟩ := hSW
                go_simp
                try with_reducible rfl
              try simp only [Act.put, List.setIfInBounds_toArray, List.set_cons_zero, List.set_cons_succ]
              refine wpAnyH_take (i := 19) (v := ?_) rfl (by kernel_rfl) (by kernel_rfl) (by kernel_rfl) (fun _ _ _ h => h) (Or.inl ⟨by rfl, ?_⟩) (by assumption) ?_
              rotate_left
              · intro W hSW
                (try dsimp only at hSW)
                obtain ⟨⟨z0, z1, z2, z4, z5⟩, z3⟩ := hSW
                go_simp
                try with_reducible rfl
              try simp only [Act.put, List.setIfInBounds_toArray, List.set_cons_zero, List.set_cons_succ]
              refine wpAnyH_done (by kernel_rfl) ?_ _
              have HOW := Lib.hid (own_below HO.out (show Below wr.heap.size wr (w6.alloc (.cells #[.string ⟨#[32, 43, 32]⟩, .string ⟨#[32, 45, 32]⟩, .string ⟨#[32, 42, 32]⟩, .string ⟨#[32, 47, 32]⟩, .string ⟨#[32, 61, 32]⟩] 9)) from bl_call (bl_alloc (Below.refl _ wr) (.cells #[.int .i64 10, .int .i64 l[k].slot, .complex .f64 l[k].re l[k].im] 43)) (by repeat (first | exact Below.refl _ _ | assumption | refine bl_drew ?_ | refine bl_alloc ?_ _ | refine bl_call ?_ (by assumption)))))
              have HBW := Lib.hid (show Below w.heap.size w (w6.alloc (.cells #[.string ⟨#[32, 43, 32]⟩, .string ⟨#[32, 45, 32]⟩, .string ⟨#[32, 42, 32]⟩, .string ⟨#[32, 47, 32]⟩, .string ⟨#[32, 61, 32]⟩] 9)) from bl_call HB2.out (by repeat (first | exact Below.refl _ _ | assumption | refine bl_drew ?_ | refine bl_alloc ?_ _ | refine bl_call ?_ (by assumption))))
              have hsW := HBW.out.size
              go_wp2_with (first | (at_builtin; refine wpList_append_lies _ rfl (.tmp 98) (.tmp 102) 40 rfl w.heap.size 49 i0 (.agg #[.string ⟨#[]⟩, .int .i64 0]) 2 24 Tryd.underlying40 hi hz0 hz1 hz2 rfl (by decide) _ _ _ rfl (HOW.out.alloc _) ⟨_, 0, none⟩ 1 1 ([.string (((⟨(ins 3 a.txt a.str).toArray⟩ : ByteArray) ++ ⟨#[32, 42, 32]⟩) ++ ⟨(ins 4 b.txt b.str).toArray⟩), .int .i64 3]) rfl rfl ?c1 ?c2 (by decide) ?c3 ?c4 ?c5 _ rfl ?_))
              case c1 => exact wt_news2 _ _ _ _ (by first | rfl | (rw [World.size_alloc]; done) | (simp; done))
              case c2 => exact wt_one2 _ _ rfl rfl
              case c3 => unfold maxLen; omega
              case c4 => omega
              case c5 => first | (rw [World.size_alloc]; omega) | exact (bl_alloc HBW.out _).size
              · intro g' cap' w9 hown' hgrow _ _
                have HN := Lib.hid (HNX.out (.two l[k] a b) HTO.out HTF.out _ _ _ _ _ _ _ _ HBW.out rfl (by rw [HXS.out]) hown' hgrow HROW.out)
                clear hown' hgrow
                go_wp2
                case roundEnd => exact HN.out
        · go_simp
          refine hK.out _ _ ?_ (fun hHeld => ?_)
          · exact HS.out _ (by repeat (first | exact Below.refl _ _ | assumption | refine bl_drew ?_ | refine bl_alloc ?_ _ | refine bl_call ?_ (by assumption)))
          clear hK K
          try simp only [Act.put, List.setIfInBounds_toArray, List.set_cons_zero, List.set_cons_succ]
          refine wpAnyH_more (S' := fun W => (W.cell? ⟨wr.heap.size, 0, none⟩ = some (.int .i64 10) ∧ W.cell? ⟨gs, s0.length * 2, none⟩ = some (tx a.txt) ∧ W.cell? ⟨gs, s0.length * 2 + 1, none⟩ = some (.int .i64 (a.str : Int)) ∧ W.cell? ⟨gs, s0.length * 2 + 2, none⟩ = some (tx b.txt) ∧ W.cell? ⟨gs, s0.length * 2 + 3, none⟩ = some (.int .i64 (b.str : Int))) ∧ W.cell? ⟨wr.heap.size + 1, 2, none⟩ = some (.string ⟨#[32, 42, 32]⟩)) (fun _ h => h.1) ?_ (fun hHeld2 => ?_)
          · exact ⟨hHeld, (Blk.new_at (wr.alloc (.cells #[.int .i64 10, .int .i64 l[k].slot, .complex .f64 l[k].re l[k].im] 43)) 9 #[.string ⟨#[32, 43, 32]⟩, .string ⟨#[32, 45, 32]⟩, .string ⟨#[32, 42, 32]⟩, .string ⟨#[32, 47, 32]⟩, .string ⟨#[32, 61, 32]⟩] (g := wr.heap.size + 1) (by first | rfl | (rw [World.size_alloc]; done) | (simp; done))).cell 2⟩
          have hLit := hHeld2.2
          refine wpAnyH_take (i := 9) (v := ?_) rfl (by kernel_rfl) (by kernel_rfl) (by kernel_rfl) (fun _ _ _ h => h) (Or.inl ⟨by rfl, ?_⟩) (by assumption) ?_
          rotate_left
          · intro W hSW
            (try dsimp only at hSW)
            obtain ⟨⟨z0, z1, z2, z4, z5⟩, z3⟩ := hSW
            go_simp
            try with_reducible rfl
          try simp only [Act.put, List.setIfInBounds_toArray, List.set_cons_zero, List.set_cons_succ]
          refine wpAnyH_take (i := 10) (v := ?_) rfl (by kernel_rfl) (by kernel_rfl) (by kernel_rfl) (fun _ _ _ h => h) (Or.inl ⟨by rfl, ?_⟩) (by assumption) ?_
          rotate_left
          · intro W hSW
            (try dsimp only at hSW)
            obtain ⟨⟨z0, z1, z2, z4, z5⟩, z3⟩ := hSW
            go_simp
            try with_reducible rfl
          try simp only [Act.put, List.setIfInBounds_toArray, List.set_cons_zero, List.set_cons_succ]
          refine wpAnyH_ready (rs := [4]) (by kernel_rfl) (by simp) ?_
          refine AllReadyH.cons rfl (fun K hK => ?_) (AllReadyH.nil)
          · go_simp
            refine (inside_is a.txt a.str 3 _ rfl htl _).mono ?_
            rintro e w5 ⟨rfl, hb5⟩
            go_simp
            refine hK.out _ _ ?_ (fun hHeld => ?_)
            · exact ⟨HS.out _ (by repeat (first | exact Below.refl _ _ | assumption | refine bl_drew ?_ | refine bl_alloc ?_ _ | refine bl_call ?_ (by assumption))), lit_on hLit hb5⟩
            have hLit := hHeld.2
            clear hK K
            try simp only [Act.put, List.setIfInBounds_toArray, List.set_cons_zero, List.set_cons_succ]
            refine wpAnyH_take (i := 11) (v := ?_) rfl (by kernel_rfl) (by kernel_rfl) (by kernel_rfl) (fun _ _ _ h => h) (Or.inl ⟨by rfl, ?_⟩) (by assumption) ?_
            rotate_left
            · intro W hSW
              (try dsimp only at hSW)
              obtain ⟨⟨z0, z1, z2, z4, z5⟩, z3⟩ := hSW
              go_simp
              try with_reducible rfl
            try simp only [Act.put, List.setIfInBounds_toArray, List.set_cons_zero, List.set_cons_succ]
            refine wpAnyH_ready (rs := [17]) (by kernel_rfl) (by simp) ?_
            refine AllReadyH.cons rfl (fun K hK => ?_) (AllReadyH.nil)
            · go_simp
              refine (inside_is b.txt b.str 4 _ rfl htlb _).mono ?_
              rintro e w6 ⟨rfl, hb6⟩
              go_simp
              refine hK.out _ _ ?_ (fun hHeld => ?_)
              · exact ⟨HS.out _ (by repeat (first | exact Below.refl _ _ | assumption | refine bl_drew ?_ | refine bl_alloc ?_ _ | refine bl_call ?_ (by assumption))), lit_on hLit hb6⟩
              have hLit := hHeld.2
              clear hK K
              try simp only [Act.put, List.setIfInBounds_toArray, List.set_cons_zero, List.set_cons_succ]
              refine wpAnyH_take (i := 18) (v := ?_) rfl (by kernel_rfl) (by kernel_rfl) (by kernel_rfl) (fun _ _ _ h => h) (Or.inl ⟨by rfl, ?_⟩) (by assumption) ?_
              rotate_left
              · intro W hSW
                (try dsimp only at hSW)
                obtain ⟨⟨z0, z1, z2, z4, z5⟩, z3⟩ := hSW
                go_simp
                try with_reducible rfl
              try simp only [Act.put, List.setIfInBounds_toArray, List.set_cons_zero, List.set_cons_succ]
              refine wpAnyH_take (i := 19) (v := ?_) rfl (by kernel_rfl) (by kernel_rfl) (by kernel_rfl) (fun _ _ _ h => h) (Or.inl ⟨by rfl, ?_⟩) (by assumption) ?_
              rotate_left
              · intro W hSW
                (try dsimp only at hSW)
                obtain ⟨⟨z0, z1, z2, z4, z5⟩, z3⟩ := hSW
                go_simp
                try with_reducible rfl
              try simp only [Act.put, List.setIfInBounds_toArray, List.set_cons_zero, List.set_cons_succ]
              refine wpAnyH_done (by kernel_rfl) ?_ _
              have HOW := Lib.hid (own_below HO.out (show Below wr.heap.size wr w6 from bl_call (bl_alloc (Below.refl _ wr) (.cells #[.int .i64 10, .int .i64 l[k].slot, .complex .f64 l[k].re l[k].im] 43)) (by repeat (first | exact Below.refl _ _ | assumption | refine bl_drew ?_ | refine bl_alloc ?_ _ | refine bl_call ?_ (by assumption)))))
              have HBW := Lib.hid (show Below w.heap.size w w6 from bl_call HB2.out (by repeat (first | exact Below.refl _ _ | assumption | refine bl_drew ?_ | refine bl_alloc ?_ _ | refine bl_call ?_ (by assumption))))
              have hsW := HBW.out.size
              go_wp2_with (first | (at_builtin; refine wpList_append_lies _ rfl (.tmp 98) (.tmp 102) 40 rfl w.heap.size 49 i0 (.agg #[.string ⟨#[]⟩, .int .i64 0]) 2 24 Tryd.underlying40 hi hz0 hz1 hz2 rfl (by decide) _ _ _ rfl (HOW.out.alloc _) ⟨_, 0, none⟩ 1 1 ([.string (((⟨(ins 3 a.txt a.str).toArray⟩ : ByteArray) ++ ⟨#[32, 42, 32]⟩) ++ ⟨(ins 4 b.txt b.str).toArray⟩), .int .i64 3]) rfl rfl ?c1 ?c2 (by decide) ?c3 ?c4 ?c5 _ rfl ?_))
              case c1 => exact wt_news2 _ _ _ _ (by first | rfl | (rw [World.size_alloc]; done) | (simp; done))
              case c2 => exact wt_one2 _ _ rfl rfl
              case c3 => unfold maxLen; omega
              case c4 => omega
              case c5 => first | (rw [World.size_alloc]; omega) | exact (bl_alloc HBW.out _).size
              · intro g' cap' w9 hown' hgrow _ _
                have HN := Lib.hid (HNX.out (.two l[k] a b) HTO.out HTF.out _ _ _ _ _ _ _ _ HBW.out rfl (by rw [HXS.out]) hown' hgrow HROW.out)
                clear hown' hgrow
                go_wp2
                case roundEnd => exact HN.out
      · obtain ⟨a, b, rfl⟩ : ∃ a b, ops = [a, b] := by
          have h2 : ops.length = 2 := by rw [hops, hkk]; rfl
          match ops, h2 with
          | [a, b], _ => exact ⟨a, b, rfl⟩
        rw [hkk] at x0
        have HKK := Lib.hid hkk
        have HAR := Lib.hid (show ar 11 = 2 from rfl)
        obtain ⟨hs0, hre, him⟩ : l[k].slot = 0 ∧ l[k].re = 0 ∧ l[k].im = 0 := by rcases hgx with ⟨h, _⟩ | ⟨h, _⟩ | ⟨_, a, b, c⟩ <;> first | exact ⟨a, b, c⟩ | omega
        have HX := Lib.hid (nd_op hs0 hre him)
        have hta := HOK.out a (by simp)
        have htb := HOK.out b (by simp)
        have HTO := Lib.hid (show TOk (.two l[k] a b) from TOk.two (by omega) (nd_op hs0 hre him) hta htb)
        have HTF := Lib.hid (show (Ex.two l[k] a b).flat = ([a, b] : List Ex).flatMap Ex.flat ++ [l[k]] by show a.flat ++ b.flat ++ [l[k]] = _; simp)
        have hfl60 : a.flat.length ≤ 60 := by
          have h1 := flat_le (a := a) (ts := s0 ++ [a, b]) (by simp)
          rw [HFL.out, List.length_take] at h1
          omega
        have hfl60b : b.flat.length ≤ 60 := by
          have h1 := flat_le (a := b) (ts := s0 ++ [a, b]) (by simp)
          rw [HFL.out, List.length_take] at h1
          omega
        have htl : a.txt.length ≤ 1000000 := by have := hta.2; omega
        have htlb : b.txt.length ≤ 1000000 := by have := htb.2; omega
        have HB2 := Lib.hid (bl_alloc HB.out (.cells #[.int .i64 11, .int .i64 l[k].slot, .complex .f64 l[k].re l[k].im] 43))
        clear hgx hops hre him hs0
        obtain ⟨gs, cs, hvs⟩ := Joins.ownsRow_form hown (by simp)
        subst hvs
        have hcs := own_cap2 hown
        have hcs2 : s0.length + 2 ≤ cs := by simpa using hcs
        have hgl : gs < wr.heap.size := (hown.lt gs rfl).2
        have r0 : wr.cell? ⟨gs, s0.length * 2, none⟩ = some (tx a.txt) := by simpa using wt_cell hown 0 (tx a.txt) rfl
        have r1 : wr.cell? ⟨gs, s0.length * 2 + 1, none⟩ = some (.int .i64 (a.str : Int)) := by simpa using wt_cell hown 1 (.int .i64 (a.str : Int)) rfl
        have r2 : wr.cell? ⟨gs, s0.length * 2 + 2, none⟩ = some (tx b.txt) := by simpa using wt_cell hown 2 (tx b.txt) rfl
        have r3 : wr.cell? ⟨gs, s0.length * 2 + 3, none⟩ = some (.int .i64 (b.str : Int)) := by simpa using wt_cell hown 3 (.int .i64 (b.str : Int)) rfl
        have HO : Hid (wr.ownsRow w.heap.size 49 2 (.slice (some ⟨gs, 0, none⟩) s0.length cs) s0.length (s0.flatMap wtCells)) := Lib.hid (by
          have h1 := hown
          rw [show (s0 ++ [a, b]).length = s0.length + 2 by simp] at h1
          have h2 := own_take2 h1 (k := s0.length) (by omega)
          rwa [wt_take] at h2)
        have HROW := Lib.hid (fun j (hj : (Value.slice (some ⟨gs, 0, none⟩) s0.length cs).ownBlock = some j) => (HO.out.lt j hj).1)
        have HXS : Hid (([.string (((⟨(ins 3 a.txt a.str).toArray⟩ : ByteArray) ++ ⟨#[32, 47, 32]⟩) ++ ⟨(ins 4 b.txt b.str).toArray⟩), .int .i64 3] : List Value) = wtCells (.two l[k] a b)) := Lib.hid (by
          have h1 : (Ex.two l[k] a b).txt = ins 3 a.txt a.str ++ ([32, 47, 32] ++ ins (3 + 1) b.txt b.str) := by
            show ins (stg l[k].kind) a.txt a.str ++ (opT l[k].kind ++ ins (stg l[k].kind + 1) b.txt b.str) = _
            rw [hkk]; rfl
          have h2 : (Ex.two l[k] a b).str = 3 := by show stg l[k].kind = _; rw [hkk]; rfl
          show _ = [tx (Ex.two l[k] a b).txt, .int .i64 ((Ex.two l[k] a b).str : Int)]
          rw [h1, h2, ← List.append_assoc, tx, ← cat, ← cat]
          rfl)
        have hwr0 : IntKind.i64.wrap 0 = 0 := by decide
        have hwr1 : IntKind.i64.wrap 1 = 1 := by decide
        have hwr2 : IntKind.i64.wrap 2 = 2 := by decide
        have hwr3 : IntKind.i64.wrap 3 = 3 := by decide
        have hwr4 : IntKind.i64.wrap 4 = 4 := by decide
        have hsg : ((stg 11 : Nat) : Int) = 3 := rfl
        have htl2 := ins_len 3 a.str a.txt
        have htl3 := ins_len 4 b.str b.txt
        have g1 : (9223372036854775807 < (ins 3 a.txt a.str).length + 3) = False := eq_false (by omega)
        have g2 : (9223372036854775807 < (ins 3 a.txt a.str).length + 3 + (ins 4 b.txt b.str).length) = False := eq_false (by omega)
        clear hown hkk
        go_wp2_with (first | (go_at_call 18; (with_reducible refine (strength_is 11 (by omega) _).mono ?_); rintro e w9 ⟨rfl, hw9⟩; have hw9x := hw9.symm; clear hw9; subst hw9x) | (go_at_call 19; (with_reducible refine (operands_is 11 2 _ HAR.out).mono ?_); rintro e w9 ⟨rfl, hw9⟩; have hw9x := hw9.symm; clear hw9; subst hw9x))
        have HBX := Lib.hid (Blk.new wr 43 #[.int .i64 11, .int .i64 l[k].slot, .complex .f64 l[k].re l[k].im])
        have b0 := HBX.out.cell 0
        have HS : Hid (∀ W, Below (wr.alloc (.cells #[.int .i64 11, .int .i64 l[k].slot, .complex .f64 l[k].re l[k].im] 43)).heap.size (wr.alloc (.cells #[.int .i64 11, .int .i64 l[k].slot, .complex .f64 l[k].re l[k].im] 43)) W → (W.cell? ⟨wr.heap.size, 0, none⟩ = some (.int .i64 11) ∧ W.cell? ⟨gs, s0.length * 2, none⟩ = some (tx a.txt) ∧ W.cell? ⟨gs, s0.length * 2 + 1, none⟩ = some (.int .i64 (a.str : Int)) ∧ W.cell? ⟨gs, s0.length * 2 + 2, none⟩ = some (tx b.txt) ∧ W.cell? ⟨gs, s0.length * 2 + 3, none⟩ = some (.int .i64 (b.str : Int)))) := Lib.hid fun W hW => ⟨lit_on b0 hW, lit_on (lit_on r0 (bl_alloc (Below.refl _ _) _)) hW, lit_on (lit_on r1 (bl_alloc (Below.refl _ _) _)) hW, lit_on (lit_on r2 (bl_alloc (Below.refl _ _) _)) hW, lit_on (lit_on r3 (bl_alloc (Below.refl _ _) _)) hW⟩
        clear r0 r1 r2 r3
        go_upto_region 11 with fail
        refine wp_region_held_drew (S := fun W => W.cell? ⟨wr.heap.size, 0, none⟩ = some (.int .i64 11) ∧ W.cell? ⟨gs, s0.length * 2, none⟩ = some (tx a.txt) ∧ W.cell? ⟨gs, s0.length * 2 + 1, none⟩ = some (.int .i64 (a.str : Int)) ∧ W.cell? ⟨gs, s0.length * 2 + 2, none⟩ = some (tx b.txt) ∧ W.cell? ⟨gs, s0.length * 2 + 3, none⟩ = some (.int .i64 (b.str : Int))) (by kernel_rfl) ?_ (fun hHeld => ?_)
        · exact HS.out _ (by repeat (first | exact Below.refl _ _ | assumption | refine bl_drew ?_ | refine bl_alloc ?_ _ | refine bl_call ?_ (by assumption)))
        refine wpAnyH_take (i := 0) (v := ?_) rfl (by kernel_rfl) (by kernel_rfl) (by kernel_rfl) (fun _ _ _ h => h) (Or.inl ⟨by rfl, ?_⟩) (by assumption) ?_
        rotate_left
        · intro W hSW
          (try dsimp only at hSW)
          obtain ⟨z0, z1, z2, z4, z5⟩ := hSW
          go_simp
          try with_reducible rfl
        try simp only [Act.put, List.setIfInBounds_toArray, List.set_cons_zero, List.set_cons_succ]
        refine wpAnyH_take (i := 1) (v := ?_) rfl (by kernel_rfl) (by kernel_rfl) (by kernel_rfl) (fun _ _ _ h => h) (Or.inl ⟨by rfl, ?_⟩) (by assumption) ?_
        rotate_left
        · intro W hSW
          (try dsimp only at hSW)
          obtain ⟨z0, z1, z2, z4, z5⟩ := hSW
          go_simp
          try with_reducible rfl
        try simp only [Act.put, List.setIfInBounds_toArray, List.set_cons_zero, List.set_cons_succ]
        refine wpAnyH_take (i := 2) (v := ?_) rfl (by kernel_rfl) (by kernel_rfl) (by kernel_rfl) (fun _ _ _ h => h) (Or.inl ⟨by rfl, ?_⟩) (by assumption) ?_
        rotate_left
        · intro W hSW
          (try dsimp only at hSW)
          obtain ⟨z0, z1, z2, z4, z5⟩ := hSW
          go_simp
          try with_reducible rfl
        try simp only [Act.put, List.setIfInBounds_toArray, List.set_cons_zero, List.set_cons_succ]
        refine wpAnyH_take (i := 3) (v := ?_) rfl (by kernel_rfl) (by kernel_rfl) (by kernel_rfl) (fun _ _ _ h => h) (Or.inl ⟨by rfl, ?_⟩) (by assumption) ?_
        rotate_left
        · intro W hSW
          (try dsimp only at hSW)
          obtain ⟨z0, z1, z2, z4, z5⟩ := hSW
          go_simp
          try with_reducible rfl
        try simp only [Act.put, List.setIfInBounds_toArray, List.set_cons_zero, List.set_cons_succ]
        refine wpAnyH_take (i := 6) (v := ?_) rfl (by kernel_rfl) (by kernel_rfl) (by kernel_rfl) (fun _ _ _ h => h) (Or.inl ⟨by rfl, ?_⟩) (by assumption) ?_
        rotate_left
        · intro W hSW
          (try dsimp only at hSW)
          obtain ⟨z0, z1, z2, z4, z5⟩ := hSW
          go_simp
          try with_reducible rfl
        try simp only [Act.put, List.setIfInBounds_toArray, List.set_cons_zero, List.set_cons_succ]
        refine wpAnyH_take (i := 7) (v := ?_) rfl (by kernel_rfl) (by kernel_rfl) (by kernel_rfl) (fun _ _ _ h => h) (Or.inl ⟨by rfl, ?_⟩) (by assumption) ?_
        rotate_left
        · intro W hSW
          (try dsimp only at hSW)
          obtain ⟨z0, z1, z2, z4, z5⟩ := hSW
          go_simp
          try with_reducible rfl
        try simp only [Act.put, List.setIfInBounds_toArray, List.set_cons_zero, List.set_cons_succ]
        refine wpAnyH_take (i := 8) (v := ?_) rfl (by kernel_rfl) (by kernel_rfl) (by kernel_rfl) (fun _ _ _ h => h) (Or.inl ⟨by rfl, ?_⟩) (by assumption) ?_
        rotate_left
        · intro W hSW
          (try dsimp only at hSW)
          obtain ⟨z0, z1, z2, z4, z5⟩ := hSW
          go_simp
          try with_reducible rfl
        try simp only [Act.put, List.setIfInBounds_toArray, List.set_cons_zero, List.set_cons_succ]
        refine wpAnyH_take (i := 12) (v := ?_) rfl (by kernel_rfl) (by kernel_rfl) (by kernel_rfl) (fun _ _ _ h => h) (Or.inl ⟨by rfl, ?_⟩) (by assumption) ?_
        rotate_left
        · intro W hSW
          (try dsimp only at hSW)
          obtain ⟨z0, z1, z2, z4, z5⟩ := hSW
          go_simp
          try with_reducible rfl
        try simp only [Act.put, List.setIfInBounds_toArray, List.set_cons_zero, List.set_cons_succ]
        refine wpAnyH_take (i := 13) (v := ?_) rfl (by kernel_rfl) (by kernel_rfl) (by kernel_rfl) (fun _ _ _ h => h) (Or.inl ⟨by rfl, ?_⟩) (by assumption) ?_
        rotate_left
        · intro W hSW
          (try dsimp only at hSW)
          obtain ⟨z0, z1, z2, z4, z5⟩ := hSW
          go_simp
          try with_reducible rfl
        try simp only [Act.put, List.setIfInBounds_toArray, List.set_cons_zero, List.set_cons_succ]
        refine wpAnyH_take (i := 14) (v := ?_) rfl (by kernel_rfl) (by kernel_rfl) (by kernel_rfl) (fun _ _ _ h => h) (Or.inl ⟨by rfl, ?_⟩) (by assumption) ?_
        rotate_left
        · intro W hSW
          (try dsimp only at hSW)
          obtain ⟨z0, z1, z2, z4, z5⟩ := hSW
          go_simp
          try with_reducible rfl
        try simp only [Act.put, List.setIfInBounds_toArray, List.set_cons_zero, List.set_cons_succ]
        refine wpAnyH_take (i := 15) (v := ?_) rfl (by kernel_rfl) (by kernel_rfl) (by kernel_rfl) (fun _ _ _ h => h) (Or.inl ⟨by rfl, ?_⟩) (by assumption) ?_
        rotate_left
        · intro W hSW
          (try dsimp only at hSW)
          obtain ⟨z0, z1, z2, z4, z5⟩ := hSW
          go_simp
          try with_reducible rfl
        try simp only [Act.put, List.setIfInBounds_toArray, List.set_cons_zero, List.set_cons_succ]
        refine wpAnyH_take (i := 16) (v := ?_) rfl (by kernel_rfl) (by kernel_rfl) (by kernel_rfl) (fun _ _ _ h => h) (Or.inl ⟨by rfl, ?_⟩) (by assumption) ?_
        rotate_left
        · intro W hSW
          (try dsimp only at hSW)
          obtain ⟨z0, z1, z2, z4, z5⟩ := hSW
          go_simp
          try with_reducible rfl
        try simp only [Act.put, List.setIfInBounds_toArray, List.set_cons_zero, List.set_cons_succ]
        refine wpAnyH_ready (rs := [4, 5]) (by kernel_rfl) (by simp) ?_
        refine AllReadyH.cons rfl (fun K hK => ?_) (AllReadyH.cons rfl (fun K hK => ?_) (AllReadyH.nil))
        · go_simp
          refine (inside_is a.txt a.str 3 _ rfl htl _).mono ?_
          rintro e w5 ⟨rfl, hb5⟩
          go_simp
          refine hK.out _ _ ?_ (fun hHeld => ?_)
          · exact HS.out _ (by repeat (first | exact Below.refl _ _ | assumption | refine bl_drew ?_ | refine bl_alloc ?_ _ | refine bl_call ?_ (by assumption)))
          clear hK K
          try simp only [Act.put, List.setIfInBounds_toArray, List.set_cons_zero, List.set_cons_succ]
          refine wpAnyH_ready (rs := [5, 17]) (by kernel_rfl) (by simp) ?_
          refine AllReadyH.cons rfl (fun K hK => ?_) (AllReadyH.cons rfl (fun K hK => ?_) (AllReadyH.nil))
          · go_simp
            refine hK.out _ _ ?_ (fun hHeld => ?_)
            · exact HS.out _ (by repeat (first | exact Below.refl _ _ | assumption | refine bl_drew ?_ | refine bl_alloc ?_ _ | refine bl_call ?_ (by assumption)))
            clear hK K
            try simp only [Act.put, List.setIfInBounds_toArray, List.set_cons_zero, List.set_cons_succ]
            refine wpAnyH_more (S' := fun W => (W.cell? ⟨wr.heap.size, 0, none⟩ = some (.int .i64 11) ∧ W.cell? ⟨gs, s0.length * 2, none⟩ = some (tx a.txt) ∧ W.cell? ⟨gs, s0.length * 2 + 1, none⟩ = some (.int .i64 (a.str : Int)) ∧ W.cell? ⟨gs, s0.length * 2 + 2, none⟩ = some (tx b.txt) ∧ W.cell? ⟨gs, s0.length * 2 + 3, none⟩ = some (.int .i64 (b.str : Int))) ∧ W.cell? ⟨w5.heap.size, 3, none⟩ = some (.string ⟨#[32, 47, 32]⟩)) (fun _ h => h.1) ?_ (fun hHeld2 => ?_)
            · exact ⟨hHeld, (Blk.new_at w5 9 #[.string ⟨#[32, 43, 32]⟩, .string ⟨#[32, 45, 32]⟩, .string ⟨#[32, 42, 32]⟩, .string ⟨#[32, 47, 32]⟩, .string ⟨#[32, 61, 32]⟩] (g := w5.heap.size) (by first | rfl | (rw [World.size_alloc]; done) | (simp; done))).cell 3⟩
            have hLit := hHeld2.2
            refine wpAnyH_take (i := 9) (v := ?_) rfl (by kernel_rfl) (by kernel_rfl) (by kernel_rfl) (fun _ _ _ h => h) (Or.inl ⟨by rfl, ?_⟩) (by assumption) ?_
            rotate_left
            · intro W hSW
              (try dsimp only at hSW)
              obtain ⟨⟨z0, z1, z2, z4, z5⟩, z3⟩ := hSW
              go_simp
              try with_reducible rfl
            try simp only [Act.put, List.setIfInBounds_toArray, List.set_cons_zero, List.set_cons_succ]
            refine wpAnyH_take (i := 10) (v := ?_) rfl (by kernel_rfl) (by kernel_rfl) (by kernel_rfl) (fun _ _ _ h => h) (Or.inl ⟨by rfl, ?_⟩) (by assumption) ?_
            rotate_left
            · intro W hSW
              (try dsimp only at hSW)
              obtain ⟨⟨z0, z1, z2, z4, z5⟩, z3⟩ := hSW
              go_simp
              try with_reducible rfl
            try simp only [Act.put, List.setIfInBounds_toArray, List.set_cons_zero, List.set_cons_succ]
            refine wpAnyH_take (i := 11) (v := ?_) rfl (by kernel_rfl) (by kernel_rfl) (by kernel_rfl) (fun _ _ _ h => h) (Or.inl ⟨by rfl, ?_⟩) (by assumption) ?_
            rotate_left
            · intro W hSW
              (try dsimp only at hSW)
              obtain ⟨⟨z0, z1, z2, z4, z5⟩, z3⟩ := hSW
              go_simp
              try with_reducible rfl
            try simp only [Act.put, List.setIfInBounds_toArray, List.set_cons_zero, List.set_cons_succ]
            refine wpAnyH_ready (rs := [17]) (by kernel_rfl) (by simp) ?_
            refine AllReadyH.cons rfl (fun K hK => ?_) (AllReadyH.nil)
            · go_simp
              refine (inside_is b.txt b.str 4 _ rfl htlb _).mono ?_
              rintro e w6 ⟨rfl, hb6⟩
              go_simp
              refine hK.out _ _ ?_ (fun hHeld => ?_)
              · exact ⟨HS.out _ (by repeat (first | exact Below.refl _ _ | assumption | refine bl_drew ?_ | refine bl_alloc ?_ _ | refine bl_call ?_ (by assumption))), lit_on hLit hb6⟩
              have hLit := hHeld.2
              clear hK K
              try simp only [Act.put, List.setIfInBounds_toArray, List.set_cons_zero, List.set_cons_succ]
              refine wpAnyH_take (i := 18) (v := ?_) rfl (by kernel_rfl) (by kernel_rfl) (by kernel_rfl) (fun _ _ _ h => h) (Or.inl ⟨by rfl, ?_⟩) (by assumption) ?_
              rotate_left
              · intro W hSW
                (try dsimp only at hSW)
                obtain ⟨⟨z0, z1, z2, z4, z5⟩, z3⟩ := hSW
                go_simp
                try with_reducible rfl
              try simp only [Act.put, List.setIfInBounds_toArray, List.set_cons_zero, List.set_cons_succ]
              refine wpAnyH_take (i := 19) (v := ?_) rfl (by kernel_rfl) (by kernel_rfl) (by kernel_rfl) (fun _ _ _ h => h) (Or.inl ⟨by rfl, ?_⟩) (by assumption) ?_
              rotate_left
              · intro W hSW
                (try dsimp only at hSW)
                obtain ⟨⟨z0, z1, z2, z4, z5⟩, z3⟩ := hSW
                go_simp
                try with_reducible rfl
              try simp only [Act.put, List.setIfInBounds_toArray, List.set_cons_zero, List.set_cons_succ]
              refine wpAnyH_done (by kernel_rfl) ?_ _
              have HOW := Lib.hid (own_below HO.out (show Below wr.heap.size wr w6 from bl_call (bl_alloc (Below.refl _ wr) (.cells #[.int .i64 11, .int .i64 l[k].slot, .complex .f64 l[k].re l[k].im] 43)) (by repeat (first | exact Below.refl _ _ | assumption | refine bl_drew ?_ | refine bl_alloc ?_ _ | refine bl_call ?_ (by assumption)))))
              have HBW := Lib.hid (show Below w.heap.size w w6 from bl_call HB2.out (by repeat (first | exact Below.refl _ _ | assumption | refine bl_drew ?_ | refine bl_alloc ?_ _ | refine bl_call ?_ (by assumption))))
              have hsW := HBW.out.size
              go_wp2_with (first | (at_builtin; refine wpList_append_lies _ rfl (.tmp 98) (.tmp 102) 40 rfl w.heap.size 49 i0 (.agg #[.string ⟨#[]⟩, .int .i64 0]) 2 24 Tryd.underlying40 hi hz0 hz1 hz2 rfl (by decide) _ _ _ rfl (HOW.out.alloc _) ⟨_, 0, none⟩ 1 1 ([.string (((⟨(ins 3 a.txt a.str).toArray⟩ : ByteArray) ++ ⟨#[32, 47, 32]⟩) ++ ⟨(ins 4 b.txt b.str).toArray⟩), .int .i64 3]) rfl rfl ?c1 ?c2 (by decide) ?c3 ?c4 ?c5 _ rfl ?_))
              case c1 => exact wt_news2 _ _ _ _ (by first | rfl | (rw [World.size_alloc]; done) | (simp; done))
              case c2 => exact wt_one2 _ _ rfl rfl
              case c3 => unfold maxLen; omega
              case c4 => omega
              case c5 => first | (rw [World.size_alloc]; omega) | exact (bl_alloc HBW.out _).size
              · intro g' cap' w9 hown' hgrow _ _
                have HN := Lib.hid (HNX.out (.two l[k] a b) HTO.out HTF.out _ _ _ _ _ _ _ _ HBW.out rfl (by rw [HXS.out]) hown' hgrow HROW.out)
                clear hown' hgrow
                go_wp2
                case roundEnd => exact HN.out
          · go_simp
            refine (inside_is b.txt b.str 4 _ rfl htlb _).mono ?_
            rintro e w6 ⟨rfl, hb6⟩
            go_simp
            refine hK.out _ _ ?_ (fun hHeld => ?_)
            · exact HS.out _ (by repeat (first | exact Below.refl _ _ | assumption | refine bl_drew ?_ | refine bl_alloc ?_ _ | refine bl_call ?_ (by assumption)))
            clear hK K
            try simp only [Act.put, List.setIfInBounds_toArray, List.set_cons_zero, List.set_cons_succ]
            refine wpAnyH_ready (rs := [5]) (by kernel_rfl) (by simp) ?_
            refine AllReadyH.cons rfl (fun K hK => ?_) (AllReadyH.nil)
            · go_simp
              refine hK.out _ _ ?_ (fun hHeld => ?_)
              · exact HS.out _ (by repeat (first | exact Below.refl _ _ | assumption | refine bl_drew ?_ | refine bl_alloc ?_ _ | refine bl_call ?_ (by assumption)))
              clear hK K
              try simp only [Act.put, List.setIfInBounds_toArray, List.set_cons_zero, List.set_cons_succ]
              refine wpAnyH_more (S' := fun W => (W.cell? ⟨wr.heap.size, 0, none⟩ = some (.int .i64 11) ∧ W.cell? ⟨gs, s0.length * 2, none⟩ = some (tx a.txt) ∧ W.cell? ⟨gs, s0.length * 2 + 1, none⟩ = some (.int .i64 (a.str : Int)) ∧ W.cell? ⟨gs, s0.length * 2 + 2, none⟩ = some (tx b.txt) ∧ W.cell? ⟨gs, s0.length * 2 + 3, none⟩ = some (.int .i64 (b.str : Int))) ∧ W.cell? ⟨w6.heap.size, 3, none⟩ = some (.string ⟨#[32, 47, 32]⟩)) (fun _ h => h.1) ?_ (fun hHeld2 => ?_)
              · exact ⟨hHeld, (Blk.new_at w6 9 #[.string ⟨#[32, 43, 32]⟩, .string ⟨#[32, 45, 32]⟩, .string ⟨#[32, 42, 32]⟩, .string ⟨#[32, 47, 32]⟩, .string ⟨#[32, 61, 32]⟩] (g := w6.heap.size) (by first | rfl | (rw [World.size_alloc]; done) | (simp; done))).cell 3⟩
              have hLit := hHeld2.2
              refine wpAnyH_take (i := 9) (v := ?_) rfl (by kernel_rfl) (by kernel_rfl) (by kernel_rfl) (fun _ _ _ h => h) (Or.inl ⟨by rfl, ?_⟩) (by assumption) ?_
              rotate_left
              · intro W hSW
                (try dsimp only at hSW)
                obtain ⟨⟨z0, z1, z2, z4, z5⟩, z3⟩ := hSW
                go_simp
                try with_reducible rfl
              try simp only [Act.put, List.setIfInBounds_toArray, List.set_cons_zero, List.set_cons_succ]
              refine wpAnyH_take (i := 10) (v := ?_) rfl (by kernel_rfl) (by kernel_rfl) (by kernel_rfl) (fun _ _ _ h => h) (Or.inl ⟨by rfl, ?_⟩) (by assumption) ?_
              rotate_left
              · intro W hSW
                (try dsimp only at hSW)
                obtain ⟨⟨z0, z1, z2, z4, z5⟩, z3⟩ := hSW
                go_simp
                try with_reducible rfl
              try simp only [Act.put, List.setIfInBounds_toArray, List.set_cons_zero, List.set_cons_succ]
              refine wpAnyH_take (i := 11) (v := ?_) rfl (by kernel_rfl) (by kernel_rfl) (by kernel_rfl) (fun _ _ _ h => h) (Or.inl ⟨by rfl, ?_⟩) (by assumption) ?_
              rotate_left
              · intro W hSW
                (try dsimp only at hSW)
                obtain ⟨⟨z0, z1, z2, z4, z5⟩, z3⟩ := hSW
                go_simp
                try with_reducible rfl
              try simp only [Act.put, List.setIfInBounds_toArray, List.set_cons_zero, List.set_cons_succ]
              refine wpAnyH_take (i := 18) (v := ?_) rfl (by kernel_rfl) (by kernel_rfl) (by kernel_rfl) (fun _ _ _ h => h) (Or.inl ⟨by rfl, ?_⟩) (by assumption) ?_
              rotate_left
              · intro W hSW
                (try dsimp only at hSW)
                obtain ⟨⟨z0, z1, z2, z4, z5⟩, z3⟩ := hSW
                go_simp
                try with_reducible rfl
              try simp only [Act.put, List.setIfInBounds_toArray, List.set_cons_zero, List.set_cons_succ]
              refine wpAnyH_take (i := 19) (v := ?_) rfl (by kernel_rfl) (by kernel_rfl) (by kernel_rfl) (fun _ _ _ h => h) (Or.inl ⟨by rfl, ?_⟩) (by assumption) ?_
              rotate_left
              · intro W hSW
                (try dsimp only at hSW)
                obtain ⟨⟨z0, z1, z2, z4, z5⟩, z3⟩ := hSW
                go_simp
                try with_reducible rfl
              try simp only [Act.put, List.setIfInBounds_toArray, List.set_cons_zero, List.set_cons_succ]
              refine wpAnyH_done (by kernel_rfl) ?_ _
              have HOW := Lib.hid (own_below HO.out (show Below wr.heap.size wr (w6.alloc (.cells #[.string ⟨#[32, 43, 32]⟩, .string ⟨#[32, 45, 32]⟩, .string ⟨#[32, 42, 32]⟩, .string ⟨#[32, 47, 32]⟩, .string ⟨#[32, 61, 32]⟩] 9)) from bl_call (bl_alloc (Below.refl _ wr) (.cells #[.int .i64 11, .int .i64 l[k].slot, .complex .f64 l[k].re l[k].im] 43)) (by repeat (first | exact Below.refl _ _ | assumption | refine bl_drew ?_ | refine bl_alloc ?_ _ | refine bl_call ?_ (by assumption)))))
              have HBW := Lib.hid (show Below w.heap.size w (w6.alloc (.cells #[.string ⟨#[32, 43, 32]⟩, .string ⟨#[32, 45, 32]⟩, .string ⟨#[32, 42, 32]⟩, .string ⟨#[32, 47, 32]⟩, .string ⟨#[32, 61, 32]⟩] 9)) from bl_call HB2.out (by repeat (first | exact Below.refl _ _ | assumption | refine bl_drew ?_ | refine bl_alloc ?_ _ | refine bl_call ?_ (by assumption))))
              have hsW := HBW.out.size
              go_wp2_with (first | (at_builtin; refine wpList_append_lies _ rfl (.tmp 98) (.tmp 102) 40 rfl w.heap.size 49 i0 (.agg #[.string ⟨#[]⟩, .int .i64 0]) 2 24 Tryd.underlying40 hi hz0 hz1 hz2 rfl (by decide) _ _ _ rfl (HOW.out.alloc _) ⟨_, 0, none⟩ 1 1 ([.string (((⟨(ins 3 a.txt a.str).toArray⟩ : ByteArray) ++ ⟨#[32, 47, 32]⟩) ++ ⟨(ins 4 b.txt b.str).toArray⟩), .int .i64 3]) rfl rfl ?c1 ?c2 (by decide) ?c3 ?c4 ?c5 _ rfl ?_))
              case c1 => exact wt_news2 _ _ _ _ (by first | rfl | (rw [World.size_alloc]; done) | (simp; done))
              case c2 => exact wt_one2 _ _ rfl rfl
              case c3 => unfold maxLen; omega
              case c4 => omega
              case c5 => first | (rw [World.size_alloc]; omega) | exact (bl_alloc HBW.out _).size
              · intro g' cap' w9 hown' hgrow _ _
                have HN := Lib.hid (HNX.out (.two l[k] a b) HTO.out HTF.out _ _ _ _ _ _ _ _ HBW.out rfl (by rw [HXS.out]) hown' hgrow HROW.out)
                clear hown' hgrow
                go_wp2
                case roundEnd => exact HN.out
        · go_simp
          refine hK.out _ _ ?_ (fun hHeld => ?_)
          · exact HS.out _ (by repeat (first | exact Below.refl _ _ | assumption | refine bl_drew ?_ | refine bl_alloc ?_ _ | refine bl_call ?_ (by assumption)))
          clear hK K
          try simp only [Act.put, List.setIfInBounds_toArray, List.set_cons_zero, List.set_cons_succ]
          refine wpAnyH_more (S' := fun W => (W.cell? ⟨wr.heap.size, 0, none⟩ = some (.int .i64 11) ∧ W.cell? ⟨gs, s0.length * 2, none⟩ = some (tx a.txt) ∧ W.cell? ⟨gs, s0.length * 2 + 1, none⟩ = some (.int .i64 (a.str : Int)) ∧ W.cell? ⟨gs, s0.length * 2 + 2, none⟩ = some (tx b.txt) ∧ W.cell? ⟨gs, s0.length * 2 + 3, none⟩ = some (.int .i64 (b.str : Int))) ∧ W.cell? ⟨wr.heap.size + 1, 3, none⟩ = some (.string ⟨#[32, 47, 32]⟩)) (fun _ h => h.1) ?_ (fun hHeld2 => ?_)
          · exact ⟨hHeld, (Blk.new_at (wr.alloc (.cells #[.int .i64 11, .int .i64 l[k].slot, .complex .f64 l[k].re l[k].im] 43)) 9 #[.string ⟨#[32, 43, 32]⟩, .string ⟨#[32, 45, 32]⟩, .string ⟨#[32, 42, 32]⟩, .string ⟨#[32, 47, 32]⟩, .string ⟨#[32, 61, 32]⟩] (g := wr.heap.size + 1) (by first | rfl | (rw [World.size_alloc]; done) | (simp; done))).cell 3⟩
          have hLit := hHeld2.2
          refine wpAnyH_take (i := 9) (v := ?_) rfl (by kernel_rfl) (by kernel_rfl) (by kernel_rfl) (fun _ _ _ h => h) (Or.inl ⟨by rfl, ?_⟩) (by assumption) ?_
          rotate_left
          · intro W hSW
            (try dsimp only at hSW)
            obtain ⟨⟨z0, z1, z2, z4, z5⟩, z3⟩ := hSW
            go_simp
            try with_reducible rfl
          try simp only [Act.put, List.setIfInBounds_toArray, List.set_cons_zero, List.set_cons_succ]
          refine wpAnyH_take (i := 10) (v := ?_) rfl (by kernel_rfl) (by kernel_rfl) (by kernel_rfl) (fun _ _ _ h => h) (Or.inl ⟨by rfl, ?_⟩) (by assumption) ?_
          rotate_left
          · intro W hSW
            (try dsimp only at hSW)
            obtain ⟨⟨z0, z1, z2, z4, z5⟩, z3⟩ := hSW
            go_simp
            try with_reducible rfl
          try simp only [Act.put, List.setIfInBounds_toArray, List.set_cons_zero, List.set_cons_succ]
          refine wpAnyH_ready (rs := [4]) (by kernel_rfl) (by simp) ?_
          refine AllReadyH.cons rfl (fun K hK => ?_) (AllReadyH.nil)
          · go_simp
            refine (inside_is a.txt a.str 3 _ rfl htl _).mono ?_
            rintro e w5 ⟨rfl, hb5⟩
            go_simp
            refine hK.out _ _ ?_ (fun hHeld => ?_)
            · exact ⟨HS.out _ (by repeat (first | exact Below.refl _ _ | assumption | refine bl_drew ?_ | refine bl_alloc ?_ _ | refine bl_call ?_ (by assumption))), lit_on hLit hb5⟩
            have hLit := hHeld.2
            clear hK K
            try simp only [Act.put, List.setIfInBounds_toArray, List.set_cons_zero, List.set_cons_succ]
            refine wpAnyH_take (i := 11) (v := ?_) rfl (by kernel_rfl) (by kernel_rfl) (by kernel_rfl) (fun _ _ _ h => h) (Or.inl ⟨by rfl, ?_⟩) (by assumption) ?_
            rotate_left
            · intro W hSW
              (try dsimp only at hSW)
              obtain ⟨⟨z0, z1, z2, z4, z5⟩, z3⟩ := hSW
              go_simp
              try with_reducible rfl
            try simp only [Act.put, List.setIfInBounds_toArray, List.set_cons_zero, List.set_cons_succ]
            refine wpAnyH_ready (rs := [17]) (by kernel_rfl) (by simp) ?_
            refine AllReadyH.cons rfl (fun K hK => ?_) (AllReadyH.nil)
            · go_simp
              refine (inside_is b.txt b.str 4 _ rfl htlb _).mono ?_
              rintro e w6 ⟨rfl, hb6⟩
              go_simp
              refine hK.out _ _ ?_ (fun hHeld => ?_)
              · exact ⟨HS.out _ (by repeat (first | exact Below.refl _ _ | assumption | refine bl_drew ?_ | refine bl_alloc ?_ _ | refine bl_call ?_ (by assumption))), lit_on hLit hb6⟩
              have hLit := hHeld.2
              clear hK K
              try simp only [Act.put, List.setIfInBounds_toArray, List.set_cons_zero, List.set_cons_succ]
              refine wpAnyH_take (i := 18) (v := ?_) rfl (by kernel_rfl) (by kernel_rfl) (by kernel_rfl) (fun _ _ _ h => h) (Or.inl ⟨by rfl, ?_⟩) (by assumption) ?_
              rotate_left
              · intro W hSW
                (try dsimp only at hSW)
                obtain ⟨⟨z0, z1, z2, z4, z5⟩, z3⟩ := hSW
                go_simp
                try with_reducible rfl
              try simp only [Act.put, List.setIfInBounds_toArray, List.set_cons_zero, List.set_cons_succ]
              refine wpAnyH_take (i := 19) (v := ?_) rfl (by kernel_rfl) (by kernel_rfl) (by kernel_rfl) (fun _ _ _ h => h) (Or.inl ⟨by rfl, ?_⟩) (by assumption) ?_
              rotate_left
              · intro W hSW
                (try dsimp only at hSW)
                obtain ⟨⟨z0, z1, z2, z4, z5⟩, z3⟩ := hSW
                go_simp
                try with_reducible rfl
              try simp only [Act.put, List.setIfInBounds_toArray, List.set_cons_zero, List.set_cons_succ]
              refine wpAnyH_done (by kernel_rfl) ?_ _
              have HOW := Lib.hid (own_below HO.out (show Below wr.heap.size wr w6 from bl_call (bl_alloc (Below.refl _ wr) (.cells #[.int .i64 11, .int .i64 l[k].slot, .complex .f64 l[k].re l[k].im] 43)) (by repeat (first | exact Below.refl _ _ | assumption | refine bl_drew ?_ | refine bl_alloc ?_ _ | refine bl_call ?_ (by assumption)))))
              have HBW := Lib.hid (show Below w.heap.size w w6 from bl_call HB2.out (by repeat (first | exact Below.refl _ _ | assumption | refine bl_drew ?_ | refine bl_alloc ?_ _ | refine bl_call ?_ (by assumption))))
              have hsW := HBW.out.size
              go_wp2_with (first | (at_builtin; refine wpList_append_lies _ rfl (.tmp 98) (.tmp 102) 40 rfl w.heap.size 49 i0 (.agg #[.string ⟨#[]⟩, .int .i64 0]) 2 24 Tryd.underlying40 hi hz0 hz1 hz2 rfl (by decide) _ _ _ rfl (HOW.out.alloc _) ⟨_, 0, none⟩ 1 1 ([.string (((⟨(ins 3 a.txt a.str).toArray⟩ : ByteArray) ++ ⟨#[32, 47, 32]⟩) ++ ⟨(ins 4 b.txt b.str).toArray⟩), .int .i64 3]) rfl rfl ?c1 ?c2 (by decide) ?c3 ?c4 ?c5 _ rfl ?_))
              case c1 => exact wt_news2 _ _ _ _ (by first | rfl | (rw [World.size_alloc]; done) | (simp; done))
              case c2 => exact wt_one2 _ _ rfl rfl
              case c3 => unfold maxLen; omega
              case c4 => omega
              case c5 => first | (rw [World.size_alloc]; omega) | exact (bl_alloc HBW.out _).size
              · intro g' cap' w9 hown' hgrow _ _
                have HN := Lib.hid (HNX.out (.two l[k] a b) HTO.out HTF.out _ _ _ _ _ _ _ _ HBW.out rfl (by rw [HXS.out]) hown' hgrow HROW.out)
                clear hown' hgrow
                go_wp2
                case roundEnd => exact HN.out
      · obtain ⟨a, b, rfl⟩ : ∃ a b, ops = [a, b] := by
          have h2 : ops.length = 2 := by rw [hops, hkk]; rfl
          match ops, h2 with
          | [a, b], _ => exact ⟨a, b, rfl⟩
        rw [hkk] at x0
        have HKK := Lib.hid hkk
        have HAR := Lib.hid (show ar 12 = 2 from rfl)
        obtain ⟨hs0, hre, him⟩ : l[k].slot = 0 ∧ l[k].re = 0 ∧ l[k].im = 0 := by rcases hgx with ⟨h, _⟩ | ⟨h, _⟩ | ⟨_, a, b, c⟩ <;> first | exact ⟨a, b, c⟩ | omega
        have HX := Lib.hid (nd_op hs0 hre him)
        have hta := HOK.out a (by simp)
        have htb := HOK.out b (by simp)
        have HTO := Lib.hid (show TOk (.two l[k] a b) from TOk.two (by omega) (nd_op hs0 hre him) hta htb)
        have HTF := Lib.hid (show (Ex.two l[k] a b).flat = ([a, b] : List Ex).flatMap Ex.flat ++ [l[k]] by show a.flat ++ b.flat ++ [l[k]] = _; simp)
        have hfl60 : a.flat.length ≤ 60 := by
          have h1 := flat_le (a := a) (ts := s0 ++ [a, b]) (by simp)
          rw [HFL.out, List.length_take] at h1
          omega
        have hfl60b : b.flat.length ≤ 60 := by
          have h1 := flat_le (a := b) (ts := s0 ++ [a, b]) (by simp)
          rw [HFL.out, List.length_take] at h1
          omega
        have htl : a.txt.length ≤ 1000000 := by have := hta.2; omega
        have htlb : b.txt.length ≤ 1000000 := by have := htb.2; omega
        have HB2 := Lib.hid (bl_alloc HB.out (.cells #[.int .i64 12, .int .i64 l[k].slot, .complex .f64 l[k].re l[k].im] 43))
        clear hgx hops hre him hs0
        obtain ⟨gs, cs, hvs⟩ := Joins.ownsRow_form hown (by simp)
        subst hvs
        have hcs := own_cap2 hown
        have hcs2 : s0.length + 2 ≤ cs := by simpa using hcs
        have hgl : gs < wr.heap.size := (hown.lt gs rfl).2
        have r0 : wr.cell? ⟨gs, s0.length * 2, none⟩ = some (tx a.txt) := by simpa using wt_cell hown 0 (tx a.txt) rfl
        have r1 : wr.cell? ⟨gs, s0.length * 2 + 1, none⟩ = some (.int .i64 (a.str : Int)) := by simpa using wt_cell hown 1 (.int .i64 (a.str : Int)) rfl
        have r2 : wr.cell? ⟨gs, s0.length * 2 + 2, none⟩ = some (tx b.txt) := by simpa using wt_cell hown 2 (tx b.txt) rfl
        have r3 : wr.cell? ⟨gs, s0.length * 2 + 3, none⟩ = some (.int .i64 (b.str : Int)) := by simpa using wt_cell hown 3 (.int .i64 (b.str : Int)) rfl
        have HO : Hid (wr.ownsRow w.heap.size 49 2 (.slice (some ⟨gs, 0, none⟩) s0.length cs) s0.length (s0.flatMap wtCells)) := Lib.hid (by
          have h1 := hown
          rw [show (s0 ++ [a, b]).length = s0.length + 2 by simp] at h1
          have h2 := own_take2 h1 (k := s0.length) (by omega)
          rwa [wt_take] at h2)
        have HROW := Lib.hid (fun j (hj : (Value.slice (some ⟨gs, 0, none⟩) s0.length cs).ownBlock = some j) => (HO.out.lt j hj).1)
        have HXS : Hid (([.string (((⟨(ins 1 a.txt a.str).toArray⟩ : ByteArray) ++ ⟨#[32, 61, 32]⟩) ++ ⟨(ins 2 b.txt b.str).toArray⟩), .int .i64 1] : List Value) = wtCells (.two l[k] a b)) := Lib.hid (by
          have h1 : (Ex.two l[k] a b).txt = ins 1 a.txt a.str ++ ([32, 61, 32] ++ ins (1 + 1) b.txt b.str) := by
            show ins (stg l[k].kind) a.txt a.str ++ (opT l[k].kind ++ ins (stg l[k].kind + 1) b.txt b.str) = _
            rw [hkk]; rfl
          have h2 : (Ex.two l[k] a b).str = 1 := by show stg l[k].kind = _; rw [hkk]; rfl
          show _ = [tx (Ex.two l[k] a b).txt, .int .i64 ((Ex.two l[k] a b).str : Int)]
          rw [h1, h2, ← List.append_assoc, tx, ← cat, ← cat]
          rfl)
        have hwr0 : IntKind.i64.wrap 0 = 0 := by decide
        have hwr1 : IntKind.i64.wrap 1 = 1 := by decide
        have hwr2 : IntKind.i64.wrap 2 = 2 := by decide
        have hwr3 : IntKind.i64.wrap 3 = 3 := by decide
        have hwr4 : IntKind.i64.wrap 4 = 4 := by decide
        have hsg : ((stg 12 : Nat) : Int) = 1 := rfl
        have htl2 := ins_len 1 a.str a.txt
        have htl3 := ins_len 2 b.str b.txt
        have g1 : (9223372036854775807 < (ins 1 a.txt a.str).length + 3) = False := eq_false (by omega)
        have g2 : (9223372036854775807 < (ins 1 a.txt a.str).length + 3 + (ins 2 b.txt b.str).length) = False := eq_false (by omega)
        clear hown hkk
        go_wp2_with (first | (go_at_call 18; (with_reducible refine (strength_is 12 (by omega) _).mono ?_); rintro e w9 ⟨rfl, hw9⟩; have hw9x := hw9.symm; clear hw9; subst hw9x) | (go_at_call 19; (with_reducible refine (operands_is 12 2 _ HAR.out).mono ?_); rintro e w9 ⟨rfl, hw9⟩; have hw9x := hw9.symm; clear hw9; subst hw9x))
        have HBX := Lib.hid (Blk.new wr 43 #[.int .i64 12, .int .i64 l[k].slot, .complex .f64 l[k].re l[k].im])
        have b0 := HBX.out.cell 0
        have HS : Hid (∀ W, Below (wr.alloc (.cells #[.int .i64 12, .int .i64 l[k].slot, .complex .f64 l[k].re l[k].im] 43)).heap.size (wr.alloc (.cells #[.int .i64 12, .int .i64 l[k].slot, .complex .f64 l[k].re l[k].im] 43)) W → (W.cell? ⟨wr.heap.size, 0, none⟩ = some (.int .i64 12) ∧ W.cell? ⟨gs, s0.length * 2, none⟩ = some (tx a.txt) ∧ W.cell? ⟨gs, s0.length * 2 + 1, none⟩ = some (.int .i64 (a.str : Int)) ∧ W.cell? ⟨gs, s0.length * 2 + 2, none⟩ = some (tx b.txt) ∧ W.cell? ⟨gs, s0.length * 2 + 3, none⟩ = some (.int .i64 (b.str : Int)))) := Lib.hid fun W hW => ⟨lit_on b0 hW, lit_on (lit_on r0 (bl_alloc (Below.refl _ _) _)) hW, lit_on (lit_on r1 (bl_alloc (Below.refl _ _) _)) hW, lit_on (lit_on r2 (bl_alloc (Below.refl _ _) _)) hW, lit_on (lit_on r3 (bl_alloc (Below.refl _ _) _)) hW⟩
        clear r0 r1 r2 r3
        go_upto_region 11 with fail
        refine wp_region_held_drew (S := fun W => W.cell? ⟨wr.heap.size, 0, none⟩ = some (.int .i64 12) ∧ W.cell? ⟨gs, s0.length * 2, none⟩ = some (tx a.txt) ∧ W.cell? ⟨gs, s0.length * 2 + 1, none⟩ = some (.int .i64 (a.str : Int)) ∧ W.cell? ⟨gs, s0.length * 2 + 2, none⟩ = some (tx b.txt) ∧ W.cell? ⟨gs, s0.length * 2 + 3, none⟩ = some (.int .i64 (b.str : Int))) (by kernel_rfl) ?_ (fun hHeld => ?_)
        · exact HS.out _ (by repeat (first | exact Below.refl _ _ | assumption | refine bl_drew ?_ | refine bl_alloc ?_ _ | refine bl_call ?_ (by assumption)))
        refine wpAnyH_take (i := 0) (v := ?_) rfl (by kernel_rfl) (by kernel_rfl) (by kernel_rfl) (fun _ _ _ h => h) (Or.inl ⟨by rfl, ?_⟩) (by assumption) ?_
        rotate_left
        · intro W hSW
          (try dsimp only at hSW)
          obtain ⟨z0, z1, z2, z4, z5⟩ := hSW
          go_simp
          try with_reducible rfl
        try simp only [Act.put, List.setIfInBounds_toArray, List.set_cons_zero, List.set_cons_succ]
        refine wpAnyH_take (i := 1) (v := ?_) rfl (by kernel_rfl) (by kernel_rfl) (by kernel_rfl) (fun _ _ _ h => h) (Or.inl ⟨by rfl, ?_⟩) (by assumption) ?_
        rotate_left
        · intro W hSW
          (try dsimp only at hSW)
          obtain ⟨z0, z1, z2, z4, z5⟩ := hSW
          go_simp
          try with_reducible rfl
        try simp only [Act.put, List.setIfInBounds_toArray, List.set_cons_zero, List.set_cons_succ]
        refine wpAnyH_take (i := 2) (v := ?_) rfl (by kernel_rfl) (by kernel_rfl) (by kernel_rfl) (fun _ _ _ h => h) (Or.inl ⟨by rfl, ?_⟩) (by assumption) ?_
        rotate_left
        · intro W hSW
          (try dsimp only at hSW)
          obtain ⟨z0, z1, z2, z4, z5⟩ := hSW
          go_simp
          try with_reducible rfl
        try simp only [Act.put, List.setIfInBounds_toArray, List.set_cons_zero, List.set_cons_succ]
        refine wpAnyH_take (i := 3) (v := ?_) rfl (by kernel_rfl) (by kernel_rfl) (by kernel_rfl) (fun _ _ _ h => h) (Or.inl ⟨by rfl, ?_⟩) (by assumption) ?_
        rotate_left
        · intro W hSW
          (try dsimp only at hSW)
          obtain ⟨z0, z1, z2, z4, z5⟩ := hSW
          go_simp
          try with_reducible rfl
        try simp only [Act.put, List.setIfInBounds_toArray, List.set_cons_zero, List.set_cons_succ]
        refine wpAnyH_take (i := 6) (v := ?_) rfl (by kernel_rfl) (by kernel_rfl) (by kernel_rfl) (fun _ _ _ h => h) (Or.inl ⟨by rfl, ?_⟩) (by assumption) ?_
        rotate_left
        · intro W hSW
          (try dsimp only at hSW)
          obtain ⟨z0, z1, z2, z4, z5⟩ := hSW
          go_simp
          try with_reducible rfl
        try simp only [Act.put, List.setIfInBounds_toArray, List.set_cons_zero, List.set_cons_succ]
        refine wpAnyH_take (i := 7) (v := ?_) rfl (by kernel_rfl) (by kernel_rfl) (by kernel_rfl) (fun _ _ _ h => h) (Or.inl ⟨by rfl, ?_⟩) (by assumption) ?_
        rotate_left
        · intro W hSW
          (try dsimp only at hSW)
          obtain ⟨z0, z1, z2, z4, z5⟩ := hSW
          go_simp
          try with_reducible rfl
        try simp only [Act.put, List.setIfInBounds_toArray, List.set_cons_zero, List.set_cons_succ]
        refine wpAnyH_take (i := 8) (v := ?_) rfl (by kernel_rfl) (by kernel_rfl) (by kernel_rfl) (fun _ _ _ h => h) (Or.inl ⟨by rfl, ?_⟩) (by assumption) ?_
        rotate_left
        · intro W hSW
          (try dsimp only at hSW)
          obtain ⟨z0, z1, z2, z4, z5⟩ := hSW
          go_simp
          try with_reducible rfl
        try simp only [Act.put, List.setIfInBounds_toArray, List.set_cons_zero, List.set_cons_succ]
        refine wpAnyH_take (i := 12) (v := ?_) rfl (by kernel_rfl) (by kernel_rfl) (by kernel_rfl) (fun _ _ _ h => h) (Or.inl ⟨by rfl, ?_⟩) (by assumption) ?_
        rotate_left
        · intro W hSW
          (try dsimp only at hSW)
          obtain ⟨z0, z1, z2, z4, z5⟩ := hSW
          go_simp
          try with_reducible rfl
        try simp only [Act.put, List.setIfInBounds_toArray, List.set_cons_zero, List.set_cons_succ]
        refine wpAnyH_take (i := 13) (v := ?_) rfl (by kernel_rfl) (by kernel_rfl) (by kernel_rfl) (fun _ _ _ h => h) (Or.inl ⟨by rfl, ?_⟩) (by assumption) ?_
        rotate_left
        · intro W hSW
          (try dsimp only at hSW)
          obtain ⟨z0, z1, z2, z4, z5⟩ := hSW
          go_simp
          try with_reducible rfl
        try simp only [Act.put, List.setIfInBounds_toArray, List.set_cons_zero, List.set_cons_succ]
        refine wpAnyH_take (i := 14) (v := ?_) rfl (by kernel_rfl) (by kernel_rfl) (by kernel_rfl) (fun _ _ _ h => h) (Or.inl ⟨by rfl, ?_⟩) (by assumption) ?_
        rotate_left
        · intro W hSW
          (try dsimp only at hSW)
          obtain ⟨z0, z1, z2, z4, z5⟩ := hSW
          go_simp
          try with_reducible rfl
        try simp only [Act.put, List.setIfInBounds_toArray, List.set_cons_zero, List.set_cons_succ]
        refine wpAnyH_take (i := 15) (v := ?_) rfl (by kernel_rfl) (by kernel_rfl) (by kernel_rfl) (fun _ _ _ h => h) (Or.inl ⟨by rfl, ?_⟩) (by assumption) ?_
        rotate_left
        · intro W hSW
          (try dsimp only at hSW)
          obtain ⟨z0, z1, z2, z4, z5⟩ := hSW
          go_simp
          try with_reducible rfl
        try simp only [Act.put, List.setIfInBounds_toArray, List.set_cons_zero, List.set_cons_succ]
        refine wpAnyH_take (i := 16) (v := ?_) rfl (by kernel_rfl) (by kernel_rfl) (by kernel_rfl) (fun _ _ _ h => h) (Or.inl ⟨by rfl, ?_⟩) (by assumption) ?_
        rotate_left
        · intro W hSW
          (try dsimp only at hSW)
          obtain ⟨z0, z1, z2, z4, z5⟩ := hSW
          go_simp
          try with_reducible rfl
        try simp only [Act.put, List.setIfInBounds_toArray, List.set_cons_zero, List.set_cons_succ]
        refine wpAnyH_ready (rs := [4, 5]) (by kernel_rfl) (by simp) ?_
        refine AllReadyH.cons rfl (fun K hK => ?_) (AllReadyH.cons rfl (fun K hK => ?_) (AllReadyH.nil))
        · go_simp
          refine (inside_is a.txt a.str 1 _ rfl htl _).mono ?_
          rintro e w5 ⟨rfl, hb5⟩
          go_simp
          refine hK.out _ _ ?_ (fun hHeld => ?_)
          · exact HS.out _ (by repeat (first | exact Below.refl _ _ | assumption | refine bl_drew ?_ | refine bl_alloc ?_ _ | refine bl_call ?_ (by assumption)))
          clear hK K
          try simp only [Act.put, List.setIfInBounds_toArray, List.set_cons_zero, List.set_cons_succ]
          refine wpAnyH_ready (rs := [5, 17]) (by kernel_rfl) (by simp) ?_
          refine AllReadyH.cons rfl (fun K hK => ?_) (AllReadyH.cons rfl (fun K hK => ?_) (AllReadyH.nil))
          · go_simp
            refine hK.out _ _ ?_ (fun hHeld => ?_)
            · exact HS.out _ (by repeat (first | exact Below.refl _ _ | assumption | refine bl_drew ?_ | refine bl_alloc ?_ _ | refine bl_call ?_ (by assumption)))
            clear hK K
            try simp only [Act.put, List.setIfInBounds_toArray, List.set_cons_zero, List.set_cons_succ]
            refine wpAnyH_more (S' := fun W => (W.cell? ⟨wr.heap.size, 0, none⟩ = some (.int .i64 12) ∧ W.cell? ⟨gs, s0.length * 2, none⟩ = some (tx a.txt) ∧ W.cell? ⟨gs, s0.length * 2 + 1, none⟩ = some (.int .i64 (a.str : Int)) ∧ W.cell? ⟨gs, s0.length * 2 + 2, none⟩ = some (tx b.txt) ∧ W.cell? ⟨gs, s0.length * 2 + 3, none⟩ = some (.int .i64 (b.str : Int))) ∧ W.cell? ⟨w5.heap.size, 4, none⟩ = some (.string ⟨#[32, 61, 32]⟩)) (fun _ h => h.1) ?_ (fun hHeld2 => ?_)
            · exact ⟨hHeld, (Blk.new_at w5 9 #[.string ⟨#[32, 43, 32]⟩, .string ⟨#[32, 45, 32]⟩, .string ⟨#[32, 42, 32]⟩, .string ⟨#[32, 47, 32]⟩, .string ⟨#[32, 61, 32]⟩] (g := w5.heap.size) (by first | rfl | (rw [World.size_alloc]; done) | (simp; done))).cell 4⟩
            have hLit := hHeld2.2
            refine wpAnyH_take (i := 9) (v := ?_) rfl (by kernel_rfl) (by kernel_rfl) (by kernel_rfl) (fun _ _ _ h => h) (Or.inl ⟨by rfl, ?_⟩) (by assumption) ?_
            rotate_left
            · intro W hSW
              (try dsimp only at hSW)
              obtain ⟨⟨z0, z1, z2, z4, z5⟩, z3⟩ := hSW
              go_simp
              try with_reducible rfl
            try simp only [Act.put, List.setIfInBounds_toArray, List.set_cons_zero, List.set_cons_succ]
            refine wpAnyH_take (i := 10) (v := ?_) rfl (by kernel_rfl) (by kernel_rfl) (by kernel_rfl) (fun _ _ _ h => h) (Or.inl ⟨by rfl, ?_⟩) (by assumption) ?_
            rotate_left
            · intro W hSW
              (try dsimp only at hSW)
              obtain ⟨⟨z0, z1, z2, z4, z5⟩, z3⟩ := hSW
              go_simp
              try with_reducible rfl
            try simp only [Act.put, List.setIfInBounds_toArray, List.set_cons_zero, List.set_cons_succ]
            refine wpAnyH_take (i := 11) (v := ?_) rfl (by kernel_rfl) (by kernel_rfl) (by kernel_rfl) (fun _ _ _ h => h) (Or.inl ⟨by rfl, ?_⟩) (by assumption) ?_
            rotate_left
            · intro W hSW
              (try dsimp only at hSW)
              obtain ⟨⟨z0, z1, z2, z4, z5⟩, z3⟩ := hSW
              go_simp
              try with_reducible rfl
            try simp only [Act.put, List.setIfInBounds_toArray, List.set_cons_zero, List.set_cons_succ]
            refine wpAnyH_ready (rs := [17]) (by kernel_rfl) (by simp) ?_
            refine AllReadyH.cons rfl (fun K hK => ?_) (AllReadyH.nil)
            · go_simp
              refine (inside_is b.txt b.str 2 _ rfl htlb _).mono ?_
              rintro e w6 ⟨rfl, hb6⟩
              go_simp
              refine hK.out _ _ ?_ (fun hHeld => ?_)
              · exact ⟨HS.out _ (by repeat (first | exact Below.refl _ _ | assumption | refine bl_drew ?_ | refine bl_alloc ?_ _ | refine bl_call ?_ (by assumption))), lit_on hLit hb6⟩
              have hLit := hHeld.2
              clear hK K
              try simp only [Act.put, List.setIfInBounds_toArray, List.set_cons_zero, List.set_cons_succ]
              refine wpAnyH_take (i := 18) (v := ?_) rfl (by kernel_rfl) (by kernel_rfl) (by kernel_rfl) (fun _ _ _ h => h) (Or.inl ⟨by rfl, ?_⟩) (by assumption) ?_
              rotate_left
              · intro W hSW
                (try dsimp only at hSW)
                obtain ⟨⟨z0, z1, z2, z4, z5⟩, z3⟩ := hSW
                go_simp
                try with_reducible rfl
              try simp only [Act.put, List.setIfInBounds_toArray, List.set_cons_zero, List.set_cons_succ]
              refine wpAnyH_take (i := 19) (v := ?_) rfl (by kernel_rfl) (by kernel_rfl) (by kernel_rfl) (fun _ _ _ h => h) (Or.inl ⟨by rfl, ?_⟩) (by assumption) ?_
              rotate_left
              · intro W hSW
                (try dsimp only at hSW)
                obtain ⟨⟨z0, z1, z2, z4, z5⟩, z3⟩ := hSW
                go_simp
                try with_reducible rfl
              try simp only [Act.put, List.setIfInBounds_toArray, List.set_cons_zero, List.set_cons_succ]
              refine wpAnyH_done (by kernel_rfl) ?_ _
              have HOW := Lib.hid (own_below HO.out (show Below wr.heap.size wr w6 from bl_call (bl_alloc (Below.refl _ wr) (.cells #[.int .i64 12, .int .i64 l[k].slot, .complex .f64 l[k].re l[k].im] 43)) (by repeat (first | exact Below.refl _ _ | assumption | refine bl_drew ?_ | refine bl_alloc ?_ _ | refine bl_call ?_ (by assumption)))))
              have HBW := Lib.hid (show Below w.heap.size w w6 from bl_call HB2.out (by repeat (first | exact Below.refl _ _ | assumption | refine bl_drew ?_ | refine bl_alloc ?_ _ | refine bl_call ?_ (by assumption))))
              have hsW := HBW.out.size
              go_wp2_with (first | (at_builtin; refine wpList_append_lies _ rfl (.tmp 98) (.tmp 102) 40 rfl w.heap.size 49 i0 (.agg #[.string ⟨#[]⟩, .int .i64 0]) 2 24 Tryd.underlying40 hi hz0 hz1 hz2 rfl (by decide) _ _ _ rfl (HOW.out.alloc _) ⟨_, 0, none⟩ 1 1 ([.string (((⟨(ins 1 a.txt a.str).toArray⟩ : ByteArray) ++ ⟨#[32, 61, 32]⟩) ++ ⟨(ins 2 b.txt b.str).toArray⟩), .int .i64 1]) rfl rfl ?c1 ?c2 (by decide) ?c3 ?c4 ?c5 _ rfl ?_))
              case c1 => exact wt_news2 _ _ _ _ (by first | rfl | (rw [World.size_alloc]; done) | (simp; done))
              case c2 => exact wt_one2 _ _ rfl rfl
              case c3 => unfold maxLen; omega
              case c4 => omega
              case c5 => first | (rw [World.size_alloc]; omega) | exact (bl_alloc HBW.out _).size
              · intro g' cap' w9 hown' hgrow _ _
                have HN := Lib.hid (HNX.out (.two l[k] a b) HTO.out HTF.out _ _ _ _ _ _ _ _ HBW.out rfl (by rw [HXS.out]) hown' hgrow HROW.out)
                clear hown' hgrow
                go_wp2
                case roundEnd => exact HN.out
          · go_simp
            refine (inside_is b.txt b.str 2 _ rfl htlb _).mono ?_
            rintro e w6 ⟨rfl, hb6⟩
            go_simp
            refine hK.out _ _ ?_ (fun hHeld => ?_)
            · exact HS.out _ (by repeat (first | exact Below.refl _ _ | assumption | refine bl_drew ?_ | refine bl_alloc ?_ _ | refine bl_call ?_ (by assumption)))
            clear hK K
            try simp only [Act.put, List.setIfInBounds_toArray, List.set_cons_zero, List.set_cons_succ]
            refine wpAnyH_ready (rs := [5]) (by kernel_rfl) (by simp) ?_
            refine AllReadyH.cons rfl (fun K hK => ?_) (AllReadyH.nil)
            · go_simp
              refine hK.out _ _ ?_ (fun hHeld => ?_)
              · exact HS.out _ (by repeat (first | exact Below.refl _ _ | assumption | refine bl_drew ?_ | refine bl_alloc ?_ _ | refine bl_call ?_ (by assumption)))
              clear hK K
              try simp only [Act.put, List.setIfInBounds_toArray, List.set_cons_zero, List.set_cons_succ]
              refine wpAnyH_more (S' := fun W => (W.cell? ⟨wr.heap.size, 0, none⟩ = some (.int .i64 12) ∧ W.cell? ⟨gs, s0.length * 2, none⟩ = some (tx a.txt) ∧ W.cell? ⟨gs, s0.length * 2 + 1, none⟩ = some (.int .i64 (a.str : Int)) ∧ W.cell? ⟨gs, s0.length * 2 + 2, none⟩ = some (tx b.txt) ∧ W.cell? ⟨gs, s0.length * 2 + 3, none⟩ = some (.int .i64 (b.str : Int))) ∧ W.cell? ⟨w6.heap.size, 4, none⟩ = some (.string ⟨#[32, 61, 32]⟩)) (fun _ h => h.1) ?_ (fun hHeld2 => ?_)
              · exact ⟨hHeld, (Blk.new_at w6 9 #[.string ⟨#[32, 43, 32]⟩, .string ⟨#[32, 45, 32]⟩, .string ⟨#[32, 42, 32]⟩, .string ⟨#[32, 47, 32]⟩, .string ⟨#[32, 61, 32]⟩] (g := w6.heap.size) (by first | rfl | (rw [World.size_alloc]; done) | (simp; done))).cell 4⟩
              have hLit := hHeld2.2
              refine wpAnyH_take (i := 9) (v := ?_) rfl (by kernel_rfl) (by kernel_rfl) (by kernel_rfl) (fun _ _ _ h => h) (Or.inl ⟨by rfl, ?_⟩) (by assumption) ?_
              rotate_left
              · intro W hSW
                (try dsimp only at hSW)
                obtain ⟨⟨z0, z1, z2, z4, z5⟩, z3⟩ := hSW
                go_simp
                try with_reducible rfl
              try simp only [Act.put, List.setIfInBounds_toArray, List.set_cons_zero, List.set_cons_succ]
              refine wpAnyH_take (i := 10) (v := ?_) rfl (by kernel_rfl) (by kernel_rfl) (by kernel_rfl) (fun _ _ _ h => h) (Or.inl ⟨by rfl, ?_⟩) (by assumption) ?_
              rotate_left
              · intro W hSW
                (try dsimp only at hSW)
                obtain ⟨⟨z0, z1, z2, z4, z5⟩, z3⟩ := hSW
                go_simp
                try with_reducible rfl
              try simp only [Act.put, List.setIfInBounds_toArray, List.set_cons_zero, List.set_cons_succ]
              refine wpAnyH_take (i := 11) (v := ?_) rfl (by kernel_rfl) (by kernel_rfl) (by kernel_rfl) (fun _ _ _ h => h) (Or.inl ⟨by rfl, ?_⟩) (by assumption) ?_
              rotate_left
              · intro W hSW
                (try dsimp only at hSW)
                obtain ⟨⟨z0, z1, z2, z4, z5⟩, z3⟩ := hSW
                go_simp
                try with_reducible rfl
              try simp only [Act.put, List.setIfInBounds_toArray, List.set_cons_zero, List.set_cons_succ]
              refine wpAnyH_take (i := 18) (v := ?_) rfl (by kernel_rfl) (by kernel_rfl) (by kernel_rfl) (fun _ _ _ h => h) (Or.inl ⟨by rfl, ?_⟩) (by assumption) ?_
              rotate_left
              · intro W hSW
                (try dsimp only at hSW)
                obtain ⟨⟨z0, z1, z2, z4, z5⟩, z3⟩ := hSW
                go_simp
                try with_reducible rfl
              try simp only [Act.put, List.setIfInBounds_toArray, List.set_cons_zero, List.set_cons_succ]
              refine wpAnyH_take (i := 19) (v := ?_) rfl (by kernel_rfl) (by kernel_rfl) (by kernel_rfl) (fun _ _ _ h => h) (Or.inl ⟨by rfl, ?_⟩) (by assumption) ?_
              rotate_left
              · intro W hSW
                (try dsimp only at hSW)
                obtain ⟨⟨z0, z1, z2, z4, z5⟩, z3⟩ := hSW
                go_simp
                try with_reducible rfl
              try simp only [Act.put, List.setIfInBounds_toArray, List.set_cons_zero, List.set_cons_succ]
              refine wpAnyH_done (by kernel_rfl) ?_ _
              have HOW := Lib.hid (own_below HO.out (show Below wr.heap.size wr (w6.alloc (.cells #[.string ⟨#[32, 43, 32]⟩, .string ⟨#[32, 45, 32]⟩, .string ⟨#[32, 42, 32]⟩, .string ⟨#[32, 47, 32]⟩, .string ⟨#[32, 61, 32]⟩] 9)) from bl_call (bl_alloc (Below.refl _ wr) (.cells #[.int .i64 12, .int .i64 l[k].slot, .complex .f64 l[k].re l[k].im] 43)) (by repeat (first | exact Below.refl _ _ | assumption | refine bl_drew ?_ | refine bl_alloc ?_ _ | refine bl_call ?_ (by assumption)))))
              have HBW := Lib.hid (show Below w.heap.size w (w6.alloc (.cells #[.string ⟨#[32, 43, 32]⟩, .string ⟨#[32, 45, 32]⟩, .string ⟨#[32, 42, 32]⟩, .string ⟨#[32, 47, 32]⟩, .string ⟨#[32, 61, 32]⟩] 9)) from bl_call HB2.out (by repeat (first | exact Below.refl _ _ | assumption | refine bl_drew ?_ | refine bl_alloc ?_ _ | refine bl_call ?_ (by assumption))))
              have hsW := HBW.out.size
              go_wp2_with (first | (at_builtin; refine wpList_append_lies _ rfl (.tmp 98) (.tmp 102) 40 rfl w.heap.size 49 i0 (.agg #[.string ⟨#[]⟩, .int .i64 0]) 2 24 Tryd.underlying40 hi hz0 hz1 hz2 rfl (by decide) _ _ _ rfl (HOW.out.alloc _) ⟨_, 0, none⟩ 1 1 ([.string (((⟨(ins 1 a.txt a.str).toArray⟩ : ByteArray) ++ ⟨#[32, 61, 32]⟩) ++ ⟨(ins 2 b.txt b.str).toArray⟩), .int .i64 1]) rfl rfl ?c1 ?c2 (by decide) ?c3 ?c4 ?c5 _ rfl ?_))
              case c1 => exact wt_news2 _ _ _ _ (by first | rfl | (rw [World.size_alloc]; done) | (simp; done))
              case c2 => exact wt_one2 _ _ rfl rfl
              case c3 => unfold maxLen; omega
              case c4 => omega
              case c5 => first | (rw [World.size_alloc]; omega) | exact (bl_alloc HBW.out _).size
              · intro g' cap' w9 hown' hgrow _ _
                have HN := Lib.hid (HNX.out (.two l[k] a b) HTO.out HTF.out _ _ _ _ _ _ _ _ HBW.out rfl (by rw [HXS.out]) hown' hgrow HROW.out)
                clear hown' hgrow
                go_wp2
                case roundEnd => exact HN.out
        · go_simp
          refine hK.out _ _ ?_ (fun hHeld => ?_)
          · exact HS.out _ (by repeat (first | exact Below.refl _ _ | assumption | refine bl_drew ?_ | refine bl_alloc ?_ _ | refine bl_call ?_ (by assumption)))
          clear hK K
          try simp only [Act.put, List.setIfInBounds_toArray, List.set_cons_zero, List.set_cons_succ]
          refine wpAnyH_more (S' := fun W => (W.cell? ⟨wr.heap.size, 0, none⟩ = some (.int .i64 12) ∧ W.cell? ⟨gs, s0.length * 2, none⟩ = some (tx a.txt) ∧ W.cell? ⟨gs, s0.length * 2 + 1, none⟩ = some (.int .i64 (a.str : Int)) ∧ W.cell? ⟨gs, s0.length * 2 + 2, none⟩ = some (tx b.txt) ∧ W.cell? ⟨gs, s0.length * 2 + 3, none⟩ = some (.int .i64 (b.str : Int))) ∧ W.cell? ⟨wr.heap.size + 1, 4, none⟩ = some (.string ⟨#[32, 61, 32]⟩)) (fun _ h => h.1) ?_ (fun hHeld2 => ?_)
          · exact ⟨hHeld, (Blk.new_at (wr.alloc (.cells #[.int .i64 12, .int .i64 l[k].slot, .complex .f64 l[k].re l[k].im] 43)) 9 #[.string ⟨#[32, 43, 32]⟩, .string ⟨#[32, 45, 32]⟩, .string ⟨#[32, 42, 32]⟩, .string ⟨#[32, 47, 32]⟩, .string ⟨#[32, 61, 32]⟩] (g := wr.heap.size + 1) (by first | rfl | (rw [World.size_alloc]; done) | (simp; done))).cell 4⟩
          have hLit := hHeld2.2
          refine wpAnyH_take (i := 9) (v := ?_) rfl (by kernel_rfl) (by kernel_rfl) (by kernel_rfl) (fun _ _ _ h => h) (Or.inl ⟨by rfl, ?_⟩) (by assumption) ?_
          rotate_left
          · intro W hSW
            (try dsimp only at hSW)
            obtain ⟨⟨z0, z1, z2, z4, z5⟩, z3⟩ := hSW
            go_simp
            try with_reducible rfl
          try simp only [Act.put, List.setIfInBounds_toArray, List.set_cons_zero, List.set_cons_succ]
          refine wpAnyH_take (i := 10) (v := ?_) rfl (by kernel_rfl) (by kernel_rfl) (by kernel_rfl) (fun _ _ _ h => h) (Or.inl ⟨by rfl, ?_⟩) (by assumption) ?_
          rotate_left
          · intro W hSW
            (try dsimp only at hSW)
            obtain ⟨⟨z0, z1, z2, z4, z5⟩, z3⟩ := hSW
            go_simp
            try with_reducible rfl
          try simp only [Act.put, List.setIfInBounds_toArray, List.set_cons_zero, List.set_cons_succ]
          refine wpAnyH_ready (rs := [4]) (by kernel_rfl) (by simp) ?_
          refine AllReadyH.cons rfl (fun K hK => ?_) (AllReadyH.nil)
          · go_simp
            refine (inside_is a.txt a.str 1 _ rfl htl _).mono ?_
            rintro e w5 ⟨rfl, hb5⟩
            go_simp
            refine hK.out _ _ ?_ (fun hHeld => ?_)
            · exact ⟨HS.out _ (by repeat (first | exact Below.refl _ _ | assumption | refine bl_drew ?_ | refine bl_alloc ?_ _ | refine bl_call ?_ (by assumption))), lit_on hLit hb5⟩
            have hLit := hHeld.2
            clear hK K
            try simp only [Act.put, List.setIfInBounds_toArray, List.set_cons_zero, List.set_cons_succ]
            refine wpAnyH_take (i := 11) (v := ?_) rfl (by kernel_rfl) (by kernel_rfl) (by kernel_rfl) (fun _ _ _ h => h) (Or.inl ⟨by rfl, ?_⟩) (by assumption) ?_
            rotate_left
            · intro W hSW
              (try dsimp only at hSW)
              obtain ⟨⟨z0, z1, z2, z4, z5⟩, z3⟩ := hSW
              go_simp
              try with_reducible rfl
            try simp only [Act.put, List.setIfInBounds_toArray, List.set_cons_zero, List.set_cons_succ]
            refine wpAnyH_ready (rs := [17]) (by kernel_rfl) (by simp) ?_
            refine AllReadyH.cons rfl (fun K hK => ?_) (AllReadyH.nil)
            · go_simp
              refine (inside_is b.txt b.str 2 _ rfl htlb _).mono ?_
              rintro e w6 ⟨rfl, hb6⟩
              go_simp
              refine hK.out _ _ ?_ (fun hHeld => ?_)
              · exact ⟨HS.out _ (by repeat (first | exact Below.refl _ _ | assumption | refine bl_drew ?_ | refine bl_alloc ?_ _ | refine bl_call ?_ (by assumption))), lit_on hLit hb6⟩
              have hLit := hHeld.2
              clear hK K
              try simp only [Act.put, List.setIfInBounds_toArray, List.set_cons_zero, List.set_cons_succ]
              refine wpAnyH_take (i := 18) (v := ?_) rfl (by kernel_rfl) (by kernel_rfl) (by kernel_rfl) (fun _ _ _ h => h) (Or.inl ⟨by rfl, ?_⟩) (by assumption) ?_
              rotate_left
              · intro W hSW
                (try dsimp only at hSW)
                obtain ⟨⟨z0, z1, z2, z4, z5⟩, z3⟩ := hSW
                go_simp
                try with_reducible rfl
              try simp only [Act.put, List.setIfInBounds_toArray, List.set_cons_zero, List.set_cons_succ]
              refine wpAnyH_take (i := 19) (v := ?_) rfl (by kernel_rfl) (by kernel_rfl) (by kernel_rfl) (fun _ _ _ h => h) (Or.inl ⟨by rfl, ?_⟩) (by assumption) ?_
              rotate_left
              · intro W hSW
                (try dsimp only at hSW)
                obtain ⟨⟨z0, z1, z2, z4, z5⟩, z3⟩ := hSW
                go_simp
                try with_reducible rfl
              try simp only [Act.put, List.setIfInBounds_toArray, List.set_cons_zero, List.set_cons_succ]
              refine wpAnyH_done (by kernel_rfl) ?_ _
              have HOW := Lib.hid (own_below HO.out (show Below wr.heap.size wr w6 from bl_call (bl_alloc (Below.refl _ wr) (.cells #[.int .i64 12, .int .i64 l[k].slot, .complex .f64 l[k].re l[k].im] 43)) (by repeat (first | exact Below.refl _ _ | assumption | refine bl_drew ?_ | refine bl_alloc ?_ _ | refine bl_call ?_ (by assumption)))))
              have HBW := Lib.hid (show Below w.heap.size w w6 from bl_call HB2.out (by repeat (first | exact Below.refl _ _ | assumption | refine bl_drew ?_ | refine bl_alloc ?_ _ | refine bl_call ?_ (by assumption))))
              have hsW := HBW.out.size
              go_wp2_with (first | (at_builtin; refine wpList_append_lies _ rfl (.tmp 98) (.tmp 102) 40 rfl w.heap.size 49 i0 (.agg #[.string ⟨#[]⟩, .int .i64 0]) 2 24 Tryd.underlying40 hi hz0 hz1 hz2 rfl (by decide) _ _ _ rfl (HOW.out.alloc _) ⟨_, 0, none⟩ 1 1 ([.string (((⟨(ins 1 a.txt a.str).toArray⟩ : ByteArray) ++ ⟨#[32, 61, 32]⟩) ++ ⟨(ins 2 b.txt b.str).toArray⟩), .int .i64 1]) rfl rfl ?c1 ?c2 (by decide) ?c3 ?c4 ?c5 _ rfl ?_))
              case c1 => exact wt_news2 _ _ _ _ (by first | rfl | (rw [World.size_alloc]; done) | (simp; done))
              case c2 => exact wt_one2 _ _ rfl rfl
              case c3 => unfold maxLen; omega
              case c4 => omega
              case c5 => first | (rw [World.size_alloc]; omega) | exact (bl_alloc HBW.out _).size
              · intro g' cap' w9 hown' hgrow _ _
                have HN := Lib.hid (HNX.out (.two l[k] a b) HTO.out HTF.out _ _ _ _ _ _ _ _ HBW.out rfl (by rw [HXS.out]) hown' hgrow HROW.out)
                clear hown' hgrow
                go_wp2
                case roundEnd => exact HN.out
    · have ck : decide ((k : Int) < (l.length : Int)) = false := decide_eq_false (by omega)
      obtain rfl : k = l.length := by omega
      rw [List.take_length] at hfl hrn
      have hone : ts.length = 1 := by
        have := hex 0
        rw [this] at hrn
        exact (Option.some.inj hrn).symm
      obtain ⟨t, rfl⟩ := List.length_eq_one_iff.1 hone
      have htf : t.flat = l := by simpa using hfl
      have htv := (hok t (by simp)).1
      obtain ⟨gs, cs, hvs⟩ := Joins.ownsRow_form hown (by simp)
      subst hvs
      have q0 : wr.cell? ⟨gs, 0, none⟩ = some (tx t.txt) := by simpa using wt_cell (s0 := []) (ops := [t]) hown 0 (tx t.txt) rfl
      by_cases hlong : 600 < t.txt.length
      · have cl : decide ((600 : Int) < (t.txt.length : Int)) = true := decide_eq_true (by omega)
        have HE := Lib.hid (show FmEnd l w (.returned (.tuple #[tx [], .bool false])) wr from ⟨t, htv, htf, .inr ⟨hlong, rfl⟩, HB.out⟩)
        clear hown hok hfl
        go_wp2
        exact bodyPost_ret (v := .tuple #[tx [], .bool false]) (by simp (maxDischargeDepth := 6) [results, Tryd.results7, go_sem]) rfl HE.out
      · have cl : decide ((600 : Int) < (t.txt.length : Int)) = false := decide_eq_false (by omega)
        have HE := Lib.hid (show FmEnd l w (.returned (.tuple #[tx t.txt, .bool true])) wr from ⟨t, htv, htf, .inl ⟨by omega, rfl⟩, HB.out⟩)
        clear hown hok hfl
        go_wp2
        exact bodyPost_ret (v := .tuple #[tx t.txt, .bool true]) (by simp (maxDischargeDepth := 6) [results, Tryd.results7, go_sem]) rfl HE.out
end Go.Proofs.YtjgjgjkffoagoaaDoor
