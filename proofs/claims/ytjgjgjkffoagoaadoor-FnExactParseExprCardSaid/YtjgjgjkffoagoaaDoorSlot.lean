/- What a draw of slots and of an expression with slots is: a row of complex numbers of any words, and a row of good nodes that is an expression. Condition: the bytes drawn from are bytes. -/
import Derived.Test.YtjgjgjkffoagoaaDoorMakeY
namespace Go.Proofs.YtjgjgjkffoagoaaDoor
open Go.RowKit
set_option maxRecDepth 100000
set_option maxHeartbeats 4000000
set_option linter.unusedVariables false
set_option linter.unusedSimpArgs false

/-- Two words. -/
def ZOk (z : Nat × Nat) : Prop := z.1 < 2 ^ 64 ∧ z.2 < 2 ^ 64
abbrev zv (z : Nat × Nat) : Value := .complex .f64 z.1 z.2
/-- A slice value of complex numbers that begins block g. -/
def ZRow (w : World) (v : Value) (zs : List (Nat × Nat)) (g : Nat) : Prop := ∃ cap : Nat, v = .slice (some ⟨g, 0, none⟩) zs.length cap ∧ w.ownsRow g 41 1 v zs.length (zs.map zv)
section
variable {w w' : World} {v : Value} {zs : List (Nat × Nat)} {g c : Nat}
theorem ZRow.lt (h : ZRow w v zs g) : g < w.heap.size := by
  obtain ⟨cap, rfl, hown⟩ := h
  exact (hown.lt g rfl).2
theorem ZRow.of_block (h : ZRow w v zs g) (he : w'.heap[g]? = w.heap[g]?) : ZRow w' v zs g := by
  obtain ⟨cap, rfl, hown⟩ := h
  exact ⟨cap, rfl, own_block hown he⟩
theorem ZRow.kept (h : ZRow w v zs g) (hk : Kept c w w') (hg : g ≠ c) : ZRow w' v zs g := h.of_block (hk.block g h.lt hg)
theorem ZRow.below (h : ZRow w v zs g) (hb : Below w.heap.size w w') : ZRow w' v zs g := h.of_block (hb.block g h.lt)
theorem ZRow.alloc (h : ZRow w v zs g) (o : Obj) : ZRow (w.alloc o) v zs g := h.of_block (Below.heap_alloc w o g h.lt)
theorem ZRow.app {base cap : Nat} {z : Nat × Nat} {n : Nat} (hn : n = zs.length + 1) (hown : w.ownsRow base 41 1 (.slice (some ⟨g, 0, none⟩) n cap) n (zs.map zv ++ [zv z])) : ZRow w (.slice (some ⟨g, 0, none⟩) n cap) (zs ++ [z]) g := by
  have hl : (zs ++ [z]).length = n := by simp [hn]
  rw [← hl] at hown ⊢
  refine ⟨cap, rfl, ?_⟩
  rw [List.map_append]
  exact own_at hown
end

theorem l01Double_any (c : Nat) (w : World) (H : CurOk c w) :
    Calls Tryd.prog 55 #[.pointer (some ⟨c, 0, none⟩)] w fun e w' => ∃ x, e = .returned (.float .f64 x) ∧ x < 2 ^ 64 ∧ CurEnd c w w' := by
  have hc := H.lt
  go_enter Tryd.func55, Tryd.ntmps55
  go_wp2_with fail
  go_at_call 32
  refine (l01Below_i c _ 10 _ (H.below (by repeat (first | exact Below.refl _ _ | assumption | refine bl_drewN ?_ _ | refine bl_drew ?_ | refine bl_alloc ?_ _ | refine bl_set ?_ (by first | (simp; done) | (simp; omega) | omega | (simp [World.setCell]; done) | (simp [World.setCell]; omega)) _ | refine bl_call ?_ (by assumption)))) (by decide) (by decide) (by decide)).mono ?_
  rintro e w1 ⟨k, rfl, hk10, hc1, hk1⟩
  have hz1 := hc1.lt
  have hk : k = 0 ∨ k = 1 ∨ k = 2 ∨ k = 3 ∨ k = 4 ∨ 5 ≤ k := by omega
  rcases hk with rfl | rfl | rfl | rfl | rfl | hk
  · go_wp2
    go_ret
    exact ⟨_, rfl, by decide, hc1, hk1⟩
  · go_wp2
    go_ret
    exact ⟨_, rfl, by decide, hc1, hk1⟩
  · go_wp2_with (first | (go_at_call 32; (with_reducible refine (l01Below_i c _ 1000000 _ hc1 (by decide) (by decide) (by decide)).mono ?_); rintro e w2 ⟨k2, rfl, hk20, hc2, hk2⟩; have hz2 := hc2.lt) | (refine wpl_farith 15 rfl rfl rfl rfl rfl rfl ?_; intro r1 n1 hr1))
    go_ret
    exact ⟨_, rfl, (by first | exact hr1.out.2 | exact hr2.out.2), (by first | assumption | exact CurOk.below (by assumption) (by repeat (first | exact Below.refl _ _ | assumption | refine bl_drewN ?_ _ | refine bl_drew ?_ | refine bl_alloc ?_ _ | refine bl_set ?_ (by first | (simp; done) | (simp; omega) | omega | (simp [World.setCell]; done) | (simp [World.setCell]; omega)) _ | refine bl_call ?_ (by assumption)))), by repeat (first | exact Kept.refl _ _ | assumption | refine kp_drewN ?_ _ | refine kp_alloc ?_ _ | refine kp_set ?_ _ _ | refine kp_bl ?_ (by assumption) | refine kp_call ?_ (by assumption) | refine kp_drew ?_)⟩
  · go_wp2_with (first | (go_at_call 73; (with_reducible refine (l01Single_any c _ hc1).mono ?_); rintro e w2 ⟨x2, rfl, hc2, hk2⟩; have hz2 := hc2.lt) | (refine wpl_widen 20 Tryd.underlying73 Tryd.underlying65 rfl rfl rfl rfl ?_; intro r2 n2 hr2) | (refine wpl_farith 21 rfl rfl rfl rfl rfl rfl ?_; intro r1 n1 hr1))
    go_ret
    exact ⟨_, rfl, (by first | exact hr1.out.2 | exact hr2.out.2), (by first | assumption | exact CurOk.below (by assumption) (by repeat (first | exact Below.refl _ _ | assumption | refine bl_drewN ?_ _ | refine bl_drew ?_ | refine bl_alloc ?_ _ | refine bl_set ?_ (by first | (simp; done) | (simp; omega) | omega | (simp [World.setCell]; done) | (simp [World.setCell]; omega)) _ | refine bl_call ?_ (by assumption)))), by repeat (first | exact Kept.refl _ _ | assumption | refine kp_drewN ?_ _ | refine kp_alloc ?_ _ | refine kp_set ?_ _ _ | refine kp_bl ?_ (by assumption) | refine kp_call ?_ (by assumption) | refine kp_drew ?_)⟩
  · go_wp2_with (first | (go_at_call 54; (with_reducible refine (l01Mild_any c _ hc1).mono ?_); rintro e w2 ⟨x2, rfl, hc2, hk2⟩; have hz2 := hc2.lt) | (refine wpl_widen 26 Tryd.underlying73 Tryd.underlying65 rfl rfl rfl rfl ?_; intro r2 n2 hr2) | (refine wpl_farith 27 rfl rfl rfl rfl rfl rfl ?_; intro r1 n1 hr1))
    go_ret
    exact ⟨_, rfl, (by first | exact hr1.out.2 | exact hr2.out.2), (by first | assumption | exact CurOk.below (by assumption) (by repeat (first | exact Below.refl _ _ | assumption | refine bl_drewN ?_ _ | refine bl_drew ?_ | refine bl_alloc ?_ _ | refine bl_set ?_ (by first | (simp; done) | (simp; omega) | omega | (simp [World.setCell]; done) | (simp [World.setCell]; omega)) _ | refine bl_call ?_ (by assumption)))), by repeat (first | exact Kept.refl _ _ | assumption | refine kp_drewN ?_ _ | refine kp_alloc ?_ _ | refine kp_set ?_ _ _ | refine kp_bl ?_ (by assumption) | refine kp_call ?_ (by assumption) | refine kp_drew ?_)⟩
  · have q0 : ((k : Int) == 0) = false := beq_eq_false_iff_ne.2 (by omega)
    have q1 : ((k : Int) == 1) = false := beq_eq_false_iff_ne.2 (by omega)
    have q2 : ((k : Int) == 2) = false := beq_eq_false_iff_ne.2 (by omega)
    have q3 : ((k : Int) == 3) = false := beq_eq_false_iff_ne.2 (by omega)
    have q4 : ((k : Int) == 4) = false := beq_eq_false_iff_ne.2 (by omega)
    go_wp2_with (first | (go_at_call 73; (with_reducible refine (l01Single_any c _ hc1).mono ?_); rintro e w2 ⟨x2, rfl, hc2, hk2⟩; have hz2 := hc2.lt) | (refine wpl_widen 30 Tryd.underlying73 Tryd.underlying65 rfl rfl rfl rfl ?_; intro r2 n2 hr2))
    go_ret
    exact ⟨_, rfl, (by first | exact hr1.out.2 | exact hr2.out.2), (by first | assumption | exact CurOk.below (by assumption) (by repeat (first | exact Below.refl _ _ | assumption | refine bl_drewN ?_ _ | refine bl_drew ?_ | refine bl_alloc ?_ _ | refine bl_set ?_ (by first | (simp; done) | (simp; omega) | omega | (simp [World.setCell]; done) | (simp [World.setCell]; omega)) _ | refine bl_call ?_ (by assumption)))), by repeat (first | exact Kept.refl _ _ | assumption | refine kp_drewN ?_ _ | refine kp_alloc ?_ _ | refine kp_set ?_ _ _ | refine kp_bl ?_ (by assumption) | refine kp_call ?_ (by assumption) | refine kp_drew ?_)⟩

theorem l01Complex_any (c : Nat) (w : World) (H : CurOk c w) :
    Calls Tryd.prog 36 #[.pointer (some ⟨c, 0, none⟩)] w fun e w' => ∃ z, e = .returned (zv z) ∧ ZOk z ∧ CurEnd c w w' := by
  have hc := H.lt
  go_enter Tryd.func36, Tryd.ntmps36
  go_wp2_with fail
  go_at_call 55
  refine (l01Double_any c _ H).mono ?_
  rintro e w1 ⟨x1, rfl, hx1, hc1, hk1⟩
  go_wp2_with (go_at_call 55; (with_reducible refine (l01Double_any c _ hc1).mono ?_); rintro e w2 ⟨x2, rfl, hx2, hc2, hk2⟩; have hz2 := hc2.lt)
  go_ret
  exact ⟨(x1, x2), rfl, ⟨hx1, hx2⟩, hc2, hk1.trans hk2⟩

theorem l01MildComplex_any (c : Nat) (w : World) (H : CurOk c w) :
    Calls Tryd.prog 35 #[.pointer (some ⟨c, 0, none⟩)] w fun e w' => ∃ z, e = .returned (zv z) ∧ ZOk z ∧ CurEnd c w w' := by
  have hc := H.lt
  go_enter Tryd.func35, Tryd.ntmps35
  go_wp2_with fail
  go_at_call 54
  refine (l01Mild_any c _ H).mono ?_
  rintro e w1 ⟨x1, rfl, hc1, hk1⟩
  have hz1 := hc1.lt
  go_wp2_with (first | (go_at_call 54; (with_reducible refine (l01Mild_any c _ (CurOk.below hc1 (by repeat (first | exact Below.refl _ _ | assumption | refine bl_drewN ?_ _ | refine bl_drew ?_ | refine bl_alloc ?_ _ | refine bl_set ?_ (by first | (simp; done) | (simp; omega) | omega | (simp [World.setCell]; done) | (simp [World.setCell]; omega)) _ | refine bl_call ?_ (by assumption))))).mono ?_); rintro e w2 ⟨x2, rfl, hc2, hk2⟩; have hz2 := hc2.lt) | (refine wpl_widen 7 Tryd.underlying73 Tryd.underlying65 rfl rfl rfl rfl ?_; intro r2 n2 hr2) | (refine wpl_widen 10 Tryd.underlying73 Tryd.underlying65 rfl rfl rfl rfl ?_; intro r3 n3 hr3))
  go_ret
  exact ⟨(_, _), rfl, ⟨hr2.out.2, hr3.out.2⟩, (by first | assumption | exact CurOk.below (by assumption) (by repeat (first | exact Below.refl _ _ | assumption | refine bl_drewN ?_ _ | refine bl_drew ?_ | refine bl_alloc ?_ _ | refine bl_set ?_ (by first | (simp; done) | (simp; omega) | omega | (simp [World.setCell]; done) | (simp [World.setCell]; omega)) _ | refine bl_call ?_ (by assumption)))), by repeat (first | exact Kept.refl _ _ | assumption | refine kp_drewN ?_ _ | refine kp_alloc ?_ _ | refine kp_set ?_ _ _ | refine kp_bl ?_ (by assumption) | refine kp_call ?_ (by assumption) | refine kp_drew ?_)⟩

/-- The loop's relation of l08Slots. -/
def SlRel (c : Nat) (w : World) (out n : Value) (wr : World) : Prop :=
  ∃ (k g : Nat) (zs : List (Nat × Nat)), n = .int .i64 k ∧ zs.length + k ≤ 5 ∧ ZRow wr out zs g ∧ (∀ z ∈ zs, ZOk z) ∧ w.heap.size ≤ g ∧ CurOk c wr ∧ Kept c w wr
theorem sl_next {c k g g' cap : Nat} {w W W' : World} {zs : List (Nat × Nat)} {z : Nat × Nat} {o : Obj} (hc : c < w.heap.size) (hk : 0 < k) (hjk : zs.length + k ≤ 5) (hzs : ∀ z ∈ zs, ZOk z) (hz : ZOk z) (hg : w.heap.size ≤ g) (hgl : g < W.heap.size) (hcur : CurOk c W) (hkp : Kept c w W)
    (hown : W'.ownsRow g 41 1 (.slice (some ⟨g', 0, none⟩) (zs.length + 1) cap) (zs.length + 1) (zs.map zv ++ [zv z])) (hgr : (W.alloc o).grownBy W' (some g)) (hlies : some g = some g' ∨ g' = W.heap.size + 1) :
    SlRel c w (.slice (some ⟨g', 0, none⟩) (zs.length + 1) cap) (.int .i64 ((k : Int) - 1)) W' ∧ (RowKit.intOf (.int .i64 ((k : Int) - 1))).toNat < (RowKit.intOf (.int .i64 (k : Int))).toNat := by
  have hs2 : (W.alloc o).heap.size = W.heap.size + 1 := World.size_alloc W _
  have hsz := hkp.size
  refine ⟨⟨k - 1, g', zs ++ [z], by rw [show (((k - 1 : Nat)) : Int) = (k : Int) - 1 by omega], by simp; omega, ZRow.app rfl hown, fun y hy => (List.mem_append.1 hy).elim (hzs y) (fun h => by simp at h; subst h; exact hz), ?_, ?_, ?_⟩, by simp only [RowKit.intOf]; omega⟩
  · rcases hlies with h | h
    · have := Option.some.inj h; omega
    · omega
  · exact (hcur.below (bl_alloc (Below.refl _ _) o)).grown hgr (fun k e => by have := Option.some.inj e; omega)
  · exact (kp_alloc hkp o).grown hgr (fun k e => by have := Option.some.inj e; omega)

theorem l08Slots_any (c : Nat) (w : World) (H : CurOk c w) :
    Calls Tryd.prog 17 #[.pointer (some ⟨c, 0, none⟩)] w fun e w' => ∃ v zs g, e = .returned v ∧ ZRow w' v zs g ∧ (∀ z ∈ zs, ZOk z) ∧ zs.length ≤ 5 ∧ w.heap.size ≤ g ∧ CurEnd c w w' := by
  have hc := H.lt
  obtain ⟨i0, hi, hz0, hz1, hz2⟩ := info_parts A_infoC
  go_enter Tryd.func17, Tryd.ntmps17
  go_wp2_with fail
  go_at_call 32
  refine (l01Below_i c _ 4 _ (H.below (by repeat (first | exact Below.refl _ _ | assumption | refine bl_drewN ?_ _ | refine bl_drew ?_ | refine bl_alloc ?_ _ | refine bl_set ?_ (by first | (simp; done) | (simp; omega) | omega | (simp [World.setCell]; done) | (simp [World.setCell]; omega)) _ | refine bl_call ?_ (by assumption)))) (by decide) (by decide) (by decide)).mono ?_
  rintro e w1 ⟨k, rfl, hk, hc1, hk1⟩
  have hs2 : (w.alloc (.cells #[] 41)).heap.size = w.heap.size + 1 := World.size_alloc w _
  have hrow0 : ZRow (w.alloc (.cells #[] 41)) (.slice (some ⟨w.heap.size, 0, none⟩) 0 0) [] w.heap.size := ⟨0, rfl, by
    have := World.ownsRow_lit (base := w.heap.size) w (e := 41) (size := 1) #[] 0 (by omega) (Nat.zero_le _) rfl
    exact this⟩
  have hrow1 := hrow0.kept hk1 (by omega)
  have hkp1 : Kept c w w1 := (Kept.of (bl_alloc (Below.refl _ _) _)).trans hk1
  have HR1 := Lib.hid hrow1
  have HK1 := Lib.hid hkp1
  have HC1 := Lib.hid hc1
  clear hrow0 hrow1 hkp1 hc1 hk1
  go_wp2
  go_loopw [3, 4] (fun out n wr => SlRel c w out n wr) (fun _ n _ => (RowKit.intOf n).toNat)
  case atStart => exact ⟨2 + k, w.heap.size, [], by simp, by simp; omega, HR1.out, by simp, by omega, HC1.out, HK1.out⟩
  case round =>
    obtain ⟨k, g, zs, rfl, hjk, ⟨cap, rfl, hown⟩, hzs, hg, hcur, hkp⟩ := hrel
    have HOWN := Lib.hid hown
    have HCUR := Lib.hid hcur
    have HKP := Lib.hid hkp
    have hgl : g < wr.heap.size := (hown.lt g rfl).2
    clear hown hcur hkp
    by_cases h0 : 0 < k
    · have ck : decide (0 < (k : Int)) = true := decide_eq_true (by omega)
      go_wp2_with fail
      go_at_call 35
      refine (l01MildComplex_any c _ HCUR.out).mono ?_
      rintro e w2 ⟨z, rfl, hz, hc2, hk2⟩
      have HO2 := Lib.hid (own_block HOWN.out (hk2.block g hgl (by omega)))
      have HK2 := Lib.hid (HKP.out.trans hk2)
      have hgl2 : g < w2.heap.size := Nat.lt_of_lt_of_le hgl hk2.size
      clear hk2
      go_wp2_with fail
      go_at_call 31
      refine (l01Once_i c _ 10 _ hc2 (by decide) (by decide) (by decide)).mono ?_
      rintro e w3 ⟨t3, rfl, hc3, hk3⟩
      have HO3 := Lib.hid (own_block HO2.out (hk3.block g hgl2 (by omega)))
      have HK3 := Lib.hid (HK2.out.trans hk3)
      have hgl3 : g < w3.heap.size := Nat.lt_of_lt_of_le hgl2 hk3.size
      clear hk3
      cases t3
      case false =>
        go_wp2_with (first | (at_builtin; refine wpList_append_lies _ rfl _ _ 25 rfl g 41 i0 (.complex .f64 0 0) 1 16 Tryd.underlying25 hi hz0 hz1 hz2 rfl (by decide) _ _ _ rfl (HO3.out.alloc _) ⟨w3.heap.size, 0, none⟩ 1 1 [zv z] rfl rfl ?c1 ?c2 (by decide) ?c3 ?c4 ?c5 _ rfl ?_))
        case c1 =>
          intro i u hj
          match i, hj with
          | 0, hj => simp at hj; subst hj; simp [Addr.add]
        case c2 => intro u hu; simp at hu; subst hu; rfl
        case c3 => unfold maxLen; omega
        case c4 => omega
        case c5 => rw [World.size_alloc]; omega
        · intro g' cap' w5 hown' hgrow hlies _
          have HN := Lib.hid (sl_next hc h0 hjk hzs hz hg hgl3 hc3 HK3.out hown' hgrow hlies)
          clear hown' hgrow hlies
          go_wp2
          case roundEnd => exact HN.out
      case true =>
        go_wp2_with fail
        go_at_call 36
        refine (l01Complex_any c _ hc3).mono ?_
        rintro e w4 ⟨z4, rfl, hz4, hc4, hk4⟩
        have HO4 := Lib.hid (own_block HO3.out (hk4.block g hgl3 (by omega)))
        have HK4 := Lib.hid (HK3.out.trans hk4)
        have hgl4 : g < w4.heap.size := Nat.lt_of_lt_of_le hgl3 hk4.size
        clear hk4
        go_wp2_with (first | (at_builtin; refine wpList_append_lies _ rfl _ _ 25 rfl g 41 i0 (.complex .f64 0 0) 1 16 Tryd.underlying25 hi hz0 hz1 hz2 rfl (by decide) _ _ _ rfl (HO4.out.alloc _) ⟨w4.heap.size, 0, none⟩ 1 1 [zv z4] rfl rfl ?c1 ?c2 (by decide) ?c3 ?c4 ?c5 _ rfl ?_))
        case c1 =>
          intro i u hj
          match i, hj with
          | 0, hj => simp at hj; subst hj; simp [Addr.add]
        case c2 => intro u hu; simp at hu; subst hu; rfl
        case c3 => unfold maxLen; omega
        case c4 => omega
        case c5 => rw [World.size_alloc]; omega
        · intro g' cap' w5 hown' hgrow hlies _
          have HN := Lib.hid (sl_next hc h0 hjk hzs hz4 hg hgl4 hc4 HK4.out hown' hgrow hlies)
          clear hown' hgrow hlies
          go_wp2
          case roundEnd => exact HN.out
    · obtain rfl : k = 0 := by omega
      go_wp2
      go_ret
      exact ⟨_, zs, g, rfl, ⟨cap, rfl, HOWN.out⟩, hzs, by omega, hg, HCUR.out, HKP.out⟩

theorem DrawExpr_any (A : Option Addr) (len cap : Nat) (w : World) (hlen : len ≤ maxLen) (hrow : RowOk w.heap.size w A len) :
    Calls Tryd.prog 6 #[.slice A len cap] w fun e w' => ∃ (v u : Value) (l : List Nd) (zs : List (Nat × Nat)) (g h : Nat), e = .returned (.tuple #[v, u]) ∧ NRow w' v l g ∧ ZRow w' u zs h ∧ w.heap.size < g ∧ g < h ∧ (∀ x ∈ l, GoodN x) ∧ IsEx l ∧ l.length ≤ 31 ∧ (∀ z ∈ zs, ZOk z) ∧ zs.length ≤ 5 ∧ Below w.heap.size w w' := by
  go_enter Tryd.func6, Tryd.ntmps6
  go_wp2_with fail
  go_at_call 15
  refine (l01New_any A len cap w hlen hrow).mono ?_
  rintro e w1 ⟨rfl, hc1, hb1⟩
  have hlt1 := hc1.lt
  go_wp2_with fail
  go_at_call 16
  refine (l08Make_any 4 (Nat.le_refl _) _ _ hc1).mono ?_
  rintro e w2 ⟨v, l, g, rfl, hn2, hg2, hgd, hex, hll, hc2, hk2⟩
  have hlt2 := hn2.lt
  go_wp2_with fail
  go_at_call 17
  refine (l08Slots_any _ _ hc2).mono ?_
  rintro e w3 ⟨u, zs, h, rfl, hz3, hzs, hzl, hh, hc3, hk3⟩
  have HB := Lib.hid (bl_kept (bl_kept hb1 hk2 (Nat.le_refl _)) hk3 (Nat.le_refl _))
  have HN := Lib.hid (hn2.kept hk3 (by omega))
  go_wp2
  have HE : ∃ (v' u' : Value) (l : List Nd) (zs : List (Nat × Nat)) (g h : Nat), Ending.returned (.tuple #[v, u]) = .returned (.tuple #[v', u']) ∧ NRow w3 v' l g ∧ ZRow w3 u' zs h ∧ w.heap.size < g ∧ g < h ∧ (∀ x ∈ l, GoodN x) ∧ IsEx l ∧ l.length ≤ 31 ∧ (∀ z ∈ zs, ZOk z) ∧ zs.length ≤ 5 ∧ Below w.heap.size w w3 := ⟨v, u, l, zs, g, h, rfl, HN.out, hz3, by omega, by omega, hgd, hex, hll, hzs, hzl, HB.out⟩
  exact bodyPost_ret (v := .tuple #[v, u]) (by simp (maxDischargeDepth := 6) [results, Tryd.results6, go_sem]) rfl HE
end Go.Proofs.YtjgjgjkffoagoaaDoor
