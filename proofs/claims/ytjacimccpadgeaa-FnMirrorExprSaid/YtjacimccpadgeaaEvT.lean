/- What the reference's EvalExpr gives at a drawn expression: the same as the program's. Conditions: drawn nodes, an expression of at most 60 of them, words for slots. -/
import Derived.Test.YtjacimccpadgeaaEvS
namespace Go.Proofs.Ytjacimccpadgeaa
open Go.RowKit
attribute [local go_sem] run_store_float run_store_complex
attribute [local go_sem] run_neg_float run_neg_complex
set_option maxRecDepth 100000
set_option maxHeartbeats 4000000
set_option linter.unusedVariables false
set_option linter.unusedSimpArgs false

theorem add_law (P : Program) (t : TypeId) (z y : Nat × Nat) :
    ∃ (fe ff fn : World → Nat), (∀ W, (binOp .add t (.complex .f64 z.1 z.2) (.complex .f64 y.1 y.2)).run P W = .ok (.complex .f64 (fe W) (ff W)) (W.drewN (fn W))) ∧ ∀ W, Res (addF z y) (fe W, ff W) := by
  have h := fun W => csum_law P .add (Or.inl rfl) t z y W
  exact ⟨fun W => (h W).choose.1, fun W => (h W).choose.2, fun W => (h W).choose_spec.choose, fun W => (h W).choose_spec.choose_spec.1, fun W => (h W).choose_spec.choose_spec.2⟩
theorem sub_law (P : Program) (t : TypeId) (z y : Nat × Nat) :
    ∃ (fe ff fn : World → Nat), (∀ W, (binOp .sub t (.complex .f64 z.1 z.2) (.complex .f64 y.1 y.2)).run P W = .ok (.complex .f64 (fe W) (ff W)) (W.drewN (fn W))) ∧ ∀ W, Res (subF z y) (fe W, ff W) := by
  have h := fun W => csum_law P .sub (Or.inr rfl) t z y W
  exact ⟨fun W => (h W).choose.1, fun W => (h W).choose.2, fun W => (h W).choose_spec.choose, fun W => (h W).choose_spec.choose_spec.1, fun W => (h W).choose_spec.choose_spec.2⟩
theorem finS_is (z : Nat × Nat) (b : Bool) (hb : finZ z = b) (w : World) : Calls Try.prog 29 #[zv z] w fun e w' => e = .returned (.bool b) ∧ ∃ n, w' = w.drewN n := hb ▸ finiteS_any z w
/-- The loop's relation. -/
def StRel2 (l : List Nd) (zs : List (Nat × Nat)) (w : World) (v i : Value) (wr : World) : Prop :=
  ∃ (k : Nat) (st : List (Nat × Nat)), i = .int .i64 k ∧ k ≤ l.length ∧ evs zs (l.take k) [] = some st ∧ (∀ z ∈ st, ZFin z) ∧ hrun 0 (l.take k) = some st.length ∧ wr.ownsRow w.heap.size 30 1 v st.length (st.map zv) ∧ (∃ g c, v = .slice (some ⟨g, 0, none⟩) st.length c) ∧ Below w.heap.size w wr
theorem own_empty (w : World) (base : Nat) (hb : base ≤ w.heap.size) : (w.alloc (.cells #[] 30)).ownsRow base 30 1 (.slice (some ⟨w.heap.size, 0, none⟩) 0 0) 0 [] := by
  have := World.ownsRow_lit (base := w.heap.size) w (e := 30) (size := 1) #[] 0 (by omega) (Nat.zero_le _) rfl
  exact this.mono hb
theorem own_empty' (w : World) (base q : Nat) (hq : q = w.heap.size) (hb : base ≤ w.heap.size) : (w.alloc (.cells #[] 30)).ownsRow base 30 1 (.slice (some ⟨q, 0, none⟩) 0 0) 0 [] := by
  subst hq; exact own_empty w base hb
theorem bl_grown {w W W' : World} {row : Option Nat} (h : Below w.heap.size w W) (hg : W.grownBy W' row) (hr : ∀ j, row = some j → w.heap.size ≤ j) : Below w.heap.size w W' := h.grown hg h.size hr
theorem bl_own {w W W' : World} {v : Value} {n : Nat} {xs : List Value} (h : Below w.heap.size w W) (hown : W.ownsRow w.heap.size 30 1 v n xs) (hg : W.grownBy W' v.ownBlock) : Below w.heap.size w W' :=
  h.grown hg h.size (fun j hj => (hown.lt j hj).1)
theorem zv_one (s : List (Nat × Nat)) : ∀ u ∈ s.map zv, u.oneCell' = true := by
  intro u hu
  obtain ⟨z, _, rfl⟩ := List.mem_map.1 hu
  rfl
theorem ex_none {l : List Nd} {zs s0 ops : List (Nat × Nat)} {w : World} {k : Nat} {x : Nd} {r : C2} {X : Nat × Nat} (hk : k < l.length) (h : evs zs (l.take k) [] = some (s0 ++ ops)) (hops : ops.length = ar l[k].kind) (hx : l[k] = x) (he : evF x ops zs = some r) (hr : Res r X) (hf : finZ X = false) :
    ∀ W, Below w.heap.size w W → ExEnd (evs zs l []) w (.returned (.tuple #[zv (0, 0), .bool false])) W := fun W hb =>
  ex_stop hk h hops (by rw [hx, he]; show finC r = none; rw [finC_of hr, hf]; rfl) hb
theorem ex_none0 {l : List Nd} {zs s0 ops : List (Nat × Nat)} {w : World} {k : Nat} {x : Nd} (hk : k < l.length) (h : evs zs (l.take k) [] = some (s0 ++ ops)) (hops : ops.length = ar l[k].kind) (hx : l[k] = x) (he : evF x ops zs = none) :
    ∀ W, Below w.heap.size w W → ExEnd (evs zs l []) w (.returned (.tuple #[zv (0, 0), .bool false])) W := fun W hb =>
  ex_stop hk h hops (by rw [hx, he]; rfl) hb
theorem ex_val {l : List Nd} {zs ops : List (Nat × Nat)} {k : Nat} {hk : k < l.length} {x : Nd} {r : C2} {X : Nat × Nat} (hx : l[k] = x) (he : evF x ops zs = some r) (hr : Res r X) (hf : finZ X = true) :
    (evF l[k] ops zs).bind finC = some X := by
  rw [hx, he]; show finC r = some X; rw [finC_of hr, hf]; rfl
theorem sp_next {l : List Nd} {zs s0 ops : List (Nat × Nat)} {w W : World} {k : Nat} {z : Nat × Nat} {v : Value} {n : Nat} {xs : List Value} (hex : IsEx l) (hk : k < l.length) (h : evs zs (l.take k) [] = some (s0 ++ ops)) (hops : ops.length = ar l[k].kind) (hrn : hrun 0 (l.take k) = some (s0 ++ ops).length)
    (hfin : ∀ y ∈ s0 ++ ops, ZFin y) (hz : (evF l[k] ops zs).bind finC = some z) (hzf : ZFin z) (hb : Below w.heap.size w W)
    (hn : n = s0.length + 1) (hx : xs = s0.map zv ++ [zv z]) (hown' : W.ownsRow w.heap.size 30 1 v n xs) :
    StRel2 l zs w v (.int .i64 ((k : Int) + 1)) W ∧ l.length - (RowKit.intOf (.int .i64 ((k : Int) + 1))).toNat < l.length - (RowKit.intOf (.int .i64 (k : Int))).toNat := by
  subst hn hx
  obtain ⟨s1, s2, s3, s4, s5⟩ := hrun_step hex hk hrn
  have hl : (s0 ++ [z]).length = s0.length + 1 := by simp
  refine ⟨⟨k + 1, s0 ++ [z], by simp, hk, ev_next hk h (by rw [stp_part hops, hz]; rfl), fun y hy => ?_, ?_, ?_, ?_, hb⟩, by simp [RowKit.intOf]; omega⟩
  · rcases List.mem_append.1 hy with hy | hy
    · exact hfin y (List.mem_append_left _ hy)
    · simp at hy; subst hy; exact hzf
  · rw [s2]
    congr 1
    simp only [List.length_append, List.length_singleton] at *
    omega
  · simpa using hown'
  · rw [hl]
    exact Joins.ownsRow_form hown' (by omega)

theorem evalS_any (l : List Nd) (zs : List (Nat × Nat)) (v u : Value) (w : World) (hv : NView w v l) (hu : SView w u zs) (hl : 1 ≤ l.length ∧ l.length ≤ 60) (hg : ∀ x ∈ l, GoodN x) (hex : IsEx l) (hzs : ∀ z ∈ zs, ZOk z) (hzl : zs.length ≤ 5) :
    Calls Try.prog 12 #[v, u] w (ExEnd (evs zs l []) w) := by
  have HU := Lib.hid hu
  have hu' := hu
  obtain ⟨bu, cu, rfl, hbu0, _⟩ := hu'
  clear hu
  have hv' := hv
  have hv2 := hv
  obtain ⟨g, cap, rfl, hgw, hcells⟩ := hv'
  have HC := Lib.hid hcells
  clear hcells hv
  obtain ⟨i0, hi, hz0, hz1, hz2⟩ := info_parts A_infoC
  go_enter Try.func12, Try.ntmps12
  go_wp2_with fail
  go_at_call 20
  refine (exprOkS_any l _ _ hv2 hl hg hex).mono ?_
  rintro e w1 ⟨rfl, hb1⟩
  have HB1 := Lib.hid hb1
  have hsz1 := hb1.size
  clear hb1 hv2
  go_wp2
  go_loopw [6, 7] (fun v i wr => StRel2 l zs w v i wr) (fun _ i _ => l.length - (RowKit.intOf i).toNat)
  case atStart => exact ⟨0, [], rfl, Nat.zero_le _, rfl, by simp, rfl, own_empty w1 _ hsz1, ⟨_, _, rfl⟩, bl_alloc HB1.out _⟩
  case round =>
    obtain ⟨k, st, rfl, hk, hev, hfin, hrn, hown, ⟨gs, cs, rfl⟩, hb⟩ := hrel
    have HB := Lib.hid hb
    by_cases hkl : k < l.length
    · have ck : decide ((k : Int) < (l.length : Int)) = true := decide_eq_true (by omega)
      obtain ⟨s1, s2, s3, s4, s5⟩ := hrun_step hex hkl hrn
      have hcw : NCells wr g l := HC.out.below HB.out hgw
      obtain ⟨x0, x1, x2⟩ := hcw k hkl
      clear hcw
      obtain ⟨s0, ops, rfl, hops⟩ : ∃ s0 ops, st = s0 ++ ops ∧ ops.length = ar l[k].kind := ⟨st.take (st.length - ar l[k].kind), st.drop (st.length - ar l[k].kind), (List.take_append_drop _ _).symm, by rw [List.length_drop]; omega⟩
      have hsl : (s0 ++ ops).length = s0.length + ops.length := List.length_append
      have hs60 : s0.length + ops.length ≤ 60 := by omega
      have hsz := HB.out.size
      have hgs : gs < wr.heap.size := (hown.lt gs rfl).2
      rw [hsl] at hown
      rw [hsl]
      obtain ⟨a, ha⟩ : ∃ a, ops.length = a := ⟨_, rfl⟩
      have hcs : s0.length + ops.length ≤ cs := own_cap hown
      have HO := Lib.hid (own_take hown (Nat.le_add_right s0.length ops.length))
      rw [List.map_append, List.take_left' (by simp)] at HO
      have hc0 : ∀ j (h : j < ops.length), wr.cell? ⟨gs, s0.length + j, none⟩ = some (zv ops[j]) := fun j hj => by
        rw [hown.cellAt (s0.length + j) (by omega)]
        simp [List.getElem?_append_right, hj]
      have HV := Lib.hid (HU.out.below HB.out)
      obtain ⟨x, hx⟩ : ∃ x, l[k] = x := ⟨_, rfl⟩
      have hgx : GoodN x := hx ▸ hg _ (List.getElem_mem hkl)
      have HX := Lib.hid hx
      rw [hx] at x0 x1 x2 s1
      have hops' := hops
      rw [hx] at hops'
      have HOPS := Lib.hid hops
      have HEV := Lib.hid hev
      have HRN := Lib.hid hrn
      clear hown hrn hev hops s2 s3 s4 hx hsl
      rw [ha] at hcs hs60 ⊢
      obtain ⟨kd, sl, re, im⟩ := x
      simp only at x0 x1 x2 s1 hops'
      rcases hgx with ⟨h1, h2, h3⟩ | ⟨h1, h2, h3, h4⟩ | ⟨h1, h2, h3, h4⟩
      · simp only at h1 h2 h3
        subst h1 h2
        obtain rfl : a = 0 := ha.symm.trans hops'
        obtain rfl : ops = [] := List.length_eq_zero_iff.1 hops'
        clear hops' ha hc0
        go_wp2_with fail
        go_at_call 25
        refine (takes_is _ 0 _ rfl).mono ?_
        rintro e w3 ⟨rfl, hw⟩
        have hw := hw.symm
        subst hw
        have HRES : Hid (Res _ (re, im)) := Lib.hid (Res.self (good_ZOk h3))
        go_wp2_with fail
        go_at_call 29
        cases hfz : finZ (re, im)
        · have HFZ := Lib.hid hfz
          have HF2 := Lib.hid (ex_none (w := w) hkl HEV.out HOPS.out HX.out (show evF ⟨1, 0, re, im⟩ [] zs = some (cz (re, im)) from rfl) HRES.out hfz)
          refine (finS_is (re, im) false hfz _).mono ?_
          rintro e w5 ⟨rfl, n5, hw⟩
          subst hw
          go_wp2
          exact bodyPost_ret (v := .tuple #[zv (0, 0), .bool false]) (by simp (maxDischargeDepth := 6) [results, Try.results12, go_sem]) rfl (HF2.out _ (by repeat (first | exact Below.refl _ _ | assumption | refine bl_drewN ?_ _ | refine bl_drew ?_ | refine bl_alloc ?_ _ | refine bl_set ?_ (by first | (simp; done) | (simp; omega) | omega | (simp [World.setCell]; done) | (simp [World.setCell]; omega)) _ | refine bl_call ?_ (by assumption))))
        · have HFZ := Lib.hid hfz
          have HZ := Lib.hid (fin_ZFin HRES.out.zok hfz)
          have HFC := Lib.hid (ex_val (zs := zs) (ops := []) HX.out (show evF ⟨1, 0, re, im⟩ [] zs = some (cz (re, im)) from rfl) HRES.out hfz)
          refine (finS_is (re, im) true hfz _).mono ?_
          rintro e w5 ⟨rfl, n5, hw⟩
          subst hw
          go_wp2_with (at_builtin; refine wpList_append_own _ rfl (.tmp 115) (.tmp 118) 25 rfl w.heap.size 30 i0 (.complex .f64 0 0) 1 16 Try.underlying25 hi hz0 hz1 hz2 rfl (by decide) _ _ _ rfl (own_empty' _ _ _ ?d0 ?d6) ⟨gs, 0, none⟩ s0.length cs (s0.map zv) rfl (by simp) ?d1 ?d2 ?d3 ?d4 ?d5 ?_)
          case d0 => simp
          case d1 => exact (own_below HO.out (show Below wr.heap.size wr _ from by repeat (first | exact Below.refl _ _ | assumption | refine bl_drewN ?_ _ | refine bl_drew ?_ | refine bl_alloc ?_ _ | refine bl_set ?_ (by first | (simp; done) | (simp; omega) | omega | (simp [World.setCell]; done) | (simp [World.setCell]; omega)) _ | refine bl_call ?_ (by assumption)))).cells rfl
          case d2 => exact zv_one s0
          case d3 => unfold maxLen; omega
          case d4 => omega
          case d5 => simp; omega
          case d6 => simp; omega
          · intro v1 W4 hown1 hgr1 _
            have HB4 := Lib.hid (bl_grown (w := w) (by repeat (first | exact Below.refl _ _ | assumption | refine bl_drewN ?_ _ | refine bl_drew ?_ | refine bl_alloc ?_ _ | refine bl_set ?_ (by first | (simp; done) | (simp; omega) | omega | (simp [World.setCell]; done) | (simp [World.setCell]; omega)) _ | refine bl_call ?_ (by assumption))) hgr1 (fun j hj => by have h9 : some (wr.heap.size + 1) = some j := hj; have := Option.some.inj h9; omega))
            have HO4 := Lib.hid hown1
            have hs4 : w.heap.size ≤ W4.heap.size := HB4.out.size
            clear hown1 hgr1
            go_wp2_with (at_builtin; refine wpList_append_own _ rfl (.tmp 119) (.tmp 121) 25 rfl w.heap.size 30 i0 (.complex .f64 0 0) 1 16 Try.underlying25 hi hz0 hz1 hz2 rfl (by decide) _ _ _ rfl (HO4.out.alloc _) ⟨W4.heap.size, 0, none⟩ 1 1 [zv (re, im)] rfl rfl ?d1 ?d2 ?d3 ?d4 ?d5 ?_)
            case d1 =>
              intro i u hj
              match i, hj with
              | 0, hj => simp at hj; subst hj; simp [Addr.add]
            case d2 => intro u hu; simp at hu; subst hu; rfl
            case d3 => unfold maxLen; omega
            case d4 => omega
            case d5 => rw [World.size_alloc]; omega
            · intro v2 W5 hown2 hgr2 _
              have HN := Lib.hid (sp_next hex hkl HEV.out HOPS.out HRN.out hfin HFC.out HZ.out (bl_grown (bl_alloc HB4.out _) hgr2 (fun j hj => (HO4.out.lt j hj).1)) rfl rfl hown2)
              clear hown2 hgr2
              go_wp2
              case roundEnd => exact HN.out
      · simp only at h1 h2 h3 h4
        subst h1 h3 h4
        obtain rfl : a = 0 := ha.symm.trans hops'
        obtain rfl : ops = [] := List.length_eq_zero_iff.1 hops'
        clear hops' ha hc0
        obtain ⟨n, rfl⟩ : ∃ n : Nat, sl = n := ⟨sl.toNat, by omega⟩
        obtain ⟨b', c', hvb, hbu, hsc⟩ := HV.out
        cases hvb
        by_cases hn : n < zs.length
        · have d1 : decide ((zs.length : Int) ≤ (n : Int)) = false := decide_eq_false (by omega)
          have q := hsc n hn
          clear hsc
          go_wp2_with fail
          go_at_call 25
          refine (takes_is _ 0 _ rfl).mono ?_
          rintro e w3 ⟨rfl, hw⟩
          have hw := hw.symm
          subst hw
          have HRES : Hid (Res _ zs[n]) := Lib.hid (Res.self (hzs _ (List.getElem_mem hn)))
          go_wp2_with fail
          go_at_call 29
          cases hfz : finZ zs[n]
          · have HFZ := Lib.hid hfz
            have HF2 := Lib.hid (ex_none (w := w) hkl HEV.out HOPS.out HX.out (show (zs[n]?).map cz = some (cz zs[n]) by rw [List.getElem?_eq_getElem hn]; rfl) HRES.out hfz)
            refine (finS_is zs[n] false hfz _).mono ?_
            rintro e w5 ⟨rfl, n5, hw⟩
            subst hw
            go_wp2
            exact bodyPost_ret (v := .tuple #[zv (0, 0), .bool false]) (by simp (maxDischargeDepth := 6) [results, Try.results12, go_sem]) rfl (HF2.out _ (by repeat (first | exact Below.refl _ _ | assumption | refine bl_drewN ?_ _ | refine bl_drew ?_ | refine bl_alloc ?_ _ | refine bl_set ?_ (by first | (simp; done) | (simp; omega) | omega | (simp [World.setCell]; done) | (simp [World.setCell]; omega)) _ | refine bl_call ?_ (by assumption))))
          · have HFZ := Lib.hid hfz
            have HZ := Lib.hid (fin_ZFin HRES.out.zok hfz)
            have HFC := Lib.hid (ex_val (zs := zs) (ops := []) HX.out (show (zs[n]?).map cz = some (cz zs[n]) by rw [List.getElem?_eq_getElem hn]; rfl) HRES.out hfz)
            refine (finS_is zs[n] true hfz _).mono ?_
            rintro e w5 ⟨rfl, n5, hw⟩
            subst hw
            go_wp2_with (at_builtin; refine wpList_append_own _ rfl (.tmp 115) (.tmp 118) 25 rfl w.heap.size 30 i0 (.complex .f64 0 0) 1 16 Try.underlying25 hi hz0 hz1 hz2 rfl (by decide) _ _ _ rfl (own_empty' _ _ _ ?d0 ?d6) ⟨gs, 0, none⟩ s0.length cs (s0.map zv) rfl (by simp) ?d1 ?d2 ?d3 ?d4 ?d5 ?_)
            case d0 => simp
            case d1 => exact (own_below HO.out (show Below wr.heap.size wr _ from by repeat (first | exact Below.refl _ _ | assumption | refine bl_drewN ?_ _ | refine bl_drew ?_ | refine bl_alloc ?_ _ | refine bl_set ?_ (by first | (simp; done) | (simp; omega) | omega | (simp [World.setCell]; done) | (simp [World.setCell]; omega)) _ | refine bl_call ?_ (by assumption)))).cells rfl
            case d2 => exact zv_one s0
            case d3 => unfold maxLen; omega
            case d4 => omega
            case d5 => simp; omega
            case d6 => simp; omega
            · intro v1 W4 hown1 hgr1 _
              have HB4 := Lib.hid (bl_grown (w := w) (by repeat (first | exact Below.refl _ _ | assumption | refine bl_drewN ?_ _ | refine bl_drew ?_ | refine bl_alloc ?_ _ | refine bl_set ?_ (by first | (simp; done) | (simp; omega) | omega | (simp [World.setCell]; done) | (simp [World.setCell]; omega)) _ | refine bl_call ?_ (by assumption))) hgr1 (fun j hj => by have h9 : some (wr.heap.size + 1) = some j := hj; have := Option.some.inj h9; omega))
              have HO4 := Lib.hid hown1
              have hs4 : w.heap.size ≤ W4.heap.size := HB4.out.size
              clear hown1 hgr1
              go_wp2_with (at_builtin; refine wpList_append_own _ rfl (.tmp 119) (.tmp 121) 25 rfl w.heap.size 30 i0 (.complex .f64 0 0) 1 16 Try.underlying25 hi hz0 hz1 hz2 rfl (by decide) _ _ _ rfl (HO4.out.alloc _) ⟨W4.heap.size, 0, none⟩ 1 1 [zv zs[n]] rfl rfl ?d1 ?d2 ?d3 ?d4 ?d5 ?_)
              case d1 =>
                intro i u hj
                match i, hj with
                | 0, hj => simp at hj; subst hj; simp [Addr.add]
              case d2 => intro u hu; simp at hu; subst hu; rfl
              case d3 => unfold maxLen; omega
              case d4 => omega
              case d5 => rw [World.size_alloc]; omega
              · intro v2 W5 hown2 hgr2 _
                have HN := Lib.hid (sp_next hex hkl HEV.out HOPS.out HRN.out hfin HFC.out HZ.out (bl_grown (bl_alloc HB4.out _) hgr2 (fun j hj => (HO4.out.lt j hj).1)) rfl rfl hown2)
                clear hown2 hgr2
                go_wp2
                case roundEnd => exact HN.out
        · have d1 : decide ((zs.length : Int) ≤ (n : Int)) = true := decide_eq_true (by omega)
          clear hsc
          have HF2 := Lib.hid (ex_none0 (w := w) hkl HEV.out HOPS.out HX.out (show (zs[n]?).map cz = none by rw [List.getElem?_eq_none (by omega)]; rfl))
          go_wp2_with fail
          go_at_call 25
          refine (takes_is _ 0 _ rfl).mono ?_
          rintro e w3 ⟨rfl, hw⟩
          have hw := hw.symm
          subst hw

          go_wp2
          exact bodyPost_ret (v := .tuple #[zv (0, 0), .bool false]) (by simp (maxDischargeDepth := 6) [results, Try.results12, go_sem]) rfl (HF2.out _ (by repeat (first | exact Below.refl _ _ | assumption | refine bl_drewN ?_ _ | refine bl_drew ?_ | refine bl_alloc ?_ _ | refine bl_set ?_ (by first | (simp; done) | (simp; omega) | omega | (simp [World.setCell]; done) | (simp [World.setCell]; omega)) _ | refine bl_call ?_ (by assumption))))
      · simp only at h1 h2 h3 h4
        subst h2 h3 h4
        have hk' : kd = 3 ∨ kd = 4 ∨ kd = 5 ∨ kd = 6 ∨ kd = 7 ∨ kd = 8 ∨ kd = 9 ∨ kd = 10 ∨ kd = 11 ∨ kd = 12 := by omega
        rcases hk' with rfl | rfl | rfl | rfl | rfl | rfl | rfl | rfl | rfl | rfl
        · obtain rfl : a = 1 := ha.symm.trans hops'
          obtain ⟨z, rfl⟩ : ∃ z, ops = [z] := List.length_eq_one_iff.1 hops'
          have hz := hfin z (by simp)
          have q0 : wr.cell? ⟨gs, s0.length, none⟩ = some (zv z) := hc0 0 (by simp)
          clear hops' ha hc0
          go_wp2_with fail
          go_at_call 25
          refine (takes_is _ 1 _ rfl).mono ?_
          rintro e w3 ⟨rfl, hw⟩
          have hw := hw.symm
          subst hw
          have HRES : Hid (Res _ z) := Lib.hid (Res.self hz.ok)
          go_wp2_with fail
          go_at_call 29
          cases hfz : finZ z
          · have HFZ := Lib.hid hfz
            have HF2 := Lib.hid (ex_none (w := w) hkl HEV.out HOPS.out HX.out (show evF ⟨3, 0, 0, 0⟩ [z] zs = some (cz z) from rfl) HRES.out hfz)
            refine (finS_is z false hfz _).mono ?_
            rintro e w5 ⟨rfl, n5, hw⟩
            subst hw
            go_wp2
            exact bodyPost_ret (v := .tuple #[zv (0, 0), .bool false]) (by simp (maxDischargeDepth := 6) [results, Try.results12, go_sem]) rfl (HF2.out _ (by repeat (first | exact Below.refl _ _ | assumption | refine bl_drewN ?_ _ | refine bl_drew ?_ | refine bl_alloc ?_ _ | refine bl_set ?_ (by first | (simp; done) | (simp; omega) | omega | (simp [World.setCell]; done) | (simp [World.setCell]; omega)) _ | refine bl_call ?_ (by assumption))))
          · have HFZ := Lib.hid hfz
            have HZ := Lib.hid (fin_ZFin HRES.out.zok hfz)
            have HFC := Lib.hid (ex_val (zs := zs) (ops := [z]) HX.out (show evF ⟨3, 0, 0, 0⟩ [z] zs = some (cz z) from rfl) HRES.out hfz)
            refine (finS_is z true hfz _).mono ?_
            rintro e w5 ⟨rfl, n5, hw⟩
            subst hw
            go_wp2_with (at_builtin; refine wpList_append_own _ rfl (.tmp 115) (.tmp 118) 25 rfl w.heap.size 30 i0 (.complex .f64 0 0) 1 16 Try.underlying25 hi hz0 hz1 hz2 rfl (by decide) _ _ _ rfl (own_empty' _ _ _ ?d0 ?d6) ⟨gs, 0, none⟩ s0.length cs (s0.map zv) rfl (by simp) ?d1 ?d2 ?d3 ?d4 ?d5 ?_)
            case d0 => simp
            case d1 => exact (own_below HO.out (show Below wr.heap.size wr _ from by repeat (first | exact Below.refl _ _ | assumption | refine bl_drewN ?_ _ | refine bl_drew ?_ | refine bl_alloc ?_ _ | refine bl_set ?_ (by first | (simp; done) | (simp; omega) | omega | (simp [World.setCell]; done) | (simp [World.setCell]; omega)) _ | refine bl_call ?_ (by assumption)))).cells rfl
            case d2 => exact zv_one s0
            case d3 => unfold maxLen; omega
            case d4 => omega
            case d5 => simp; omega
            case d6 => simp; omega
            · intro v1 W4 hown1 hgr1 _
              have HB4 := Lib.hid (bl_grown (w := w) (by repeat (first | exact Below.refl _ _ | assumption | refine bl_drewN ?_ _ | refine bl_drew ?_ | refine bl_alloc ?_ _ | refine bl_set ?_ (by first | (simp; done) | (simp; omega) | omega | (simp [World.setCell]; done) | (simp [World.setCell]; omega)) _ | refine bl_call ?_ (by assumption))) hgr1 (fun j hj => by have h9 : some (wr.heap.size + 1) = some j := hj; have := Option.some.inj h9; omega))
              have HO4 := Lib.hid hown1
              have hs4 : w.heap.size ≤ W4.heap.size := HB4.out.size
              clear hown1 hgr1
              go_wp2_with (at_builtin; refine wpList_append_own _ rfl (.tmp 119) (.tmp 121) 25 rfl w.heap.size 30 i0 (.complex .f64 0 0) 1 16 Try.underlying25 hi hz0 hz1 hz2 rfl (by decide) _ _ _ rfl (HO4.out.alloc _) ⟨W4.heap.size, 0, none⟩ 1 1 [zv z] rfl rfl ?d1 ?d2 ?d3 ?d4 ?d5 ?_)
              case d1 =>
                intro i u hj
                match i, hj with
                | 0, hj => simp at hj; subst hj; simp [Addr.add]
              case d2 => intro u hu; simp at hu; subst hu; rfl
              case d3 => unfold maxLen; omega
              case d4 => omega
              case d5 => rw [World.size_alloc]; omega
              · intro v2 W5 hown2 hgr2 _
                have HN := Lib.hid (sp_next hex hkl HEV.out HOPS.out HRN.out hfin HFC.out HZ.out (bl_grown (bl_alloc HB4.out _) hgr2 (fun j hj => (HO4.out.lt j hj).1)) rfl rfl hown2)
                clear hown2 hgr2
                go_wp2
                case roundEnd => exact HN.out
        · obtain rfl : a = 1 := ha.symm.trans hops'
          obtain ⟨z, rfl⟩ : ∃ z, ops = [z] := List.length_eq_one_iff.1 hops'
          have hz := hfin z (by simp)
          have q0 : wr.cell? ⟨gs, s0.length, none⟩ = some (zv z) := hc0 0 (by simp)
          clear hops' ha hc0
          go_wp2_with fail
          go_at_call 25
          refine (takes_is _ 1 _ rfl).mono ?_
          rintro e w3 ⟨rfl, hw⟩
          have hw := hw.symm
          subst hw
          have HRES : Hid (Res _ (nz z)) := Lib.hid (Res.self hz.ok.neg)
          go_wp2_with fail
          go_at_call 29
          cases hfz : finZ (nz z)
          · have HFZ := Lib.hid hfz
            have HF2 := Lib.hid (ex_none (w := w) hkl HEV.out HOPS.out HX.out (show evF ⟨4, 0, 0, 0⟩ [z] zs = some (cz (nz z)) from rfl) HRES.out hfz)
            refine (finS_is (nz z) false hfz _).mono ?_
            rintro e w5 ⟨rfl, n5, hw⟩
            subst hw
            go_wp2
            exact bodyPost_ret (v := .tuple #[zv (0, 0), .bool false]) (by simp (maxDischargeDepth := 6) [results, Try.results12, go_sem]) rfl (HF2.out _ (by repeat (first | exact Below.refl _ _ | assumption | refine bl_drewN ?_ _ | refine bl_drew ?_ | refine bl_alloc ?_ _ | refine bl_set ?_ (by first | (simp; done) | (simp; omega) | omega | (simp [World.setCell]; done) | (simp [World.setCell]; omega)) _ | refine bl_call ?_ (by assumption))))
          · have HFZ := Lib.hid hfz
            have HZ := Lib.hid (fin_ZFin HRES.out.zok hfz)
            have HFC := Lib.hid (ex_val (zs := zs) (ops := [z]) HX.out (show evF ⟨4, 0, 0, 0⟩ [z] zs = some (cz (nz z)) from rfl) HRES.out hfz)
            refine (finS_is (nz z) true hfz _).mono ?_
            rintro e w5 ⟨rfl, n5, hw⟩
            subst hw
            go_wp2_with (at_builtin; refine wpList_append_own _ rfl (.tmp 115) (.tmp 118) 25 rfl w.heap.size 30 i0 (.complex .f64 0 0) 1 16 Try.underlying25 hi hz0 hz1 hz2 rfl (by decide) _ _ _ rfl (own_empty' _ _ _ ?d0 ?d6) ⟨gs, 0, none⟩ s0.length cs (s0.map zv) rfl (by simp) ?d1 ?d2 ?d3 ?d4 ?d5 ?_)
            case d0 => simp
            case d1 => exact (own_below HO.out (show Below wr.heap.size wr _ from by repeat (first | exact Below.refl _ _ | assumption | refine bl_drewN ?_ _ | refine bl_drew ?_ | refine bl_alloc ?_ _ | refine bl_set ?_ (by first | (simp; done) | (simp; omega) | omega | (simp [World.setCell]; done) | (simp [World.setCell]; omega)) _ | refine bl_call ?_ (by assumption)))).cells rfl
            case d2 => exact zv_one s0
            case d3 => unfold maxLen; omega
            case d4 => omega
            case d5 => simp; omega
            case d6 => simp; omega
            · intro v1 W4 hown1 hgr1 _
              have HB4 := Lib.hid (bl_grown (w := w) (by repeat (first | exact Below.refl _ _ | assumption | refine bl_drewN ?_ _ | refine bl_drew ?_ | refine bl_alloc ?_ _ | refine bl_set ?_ (by first | (simp; done) | (simp; omega) | omega | (simp [World.setCell]; done) | (simp [World.setCell]; omega)) _ | refine bl_call ?_ (by assumption))) hgr1 (fun j hj => by have h9 : some (wr.heap.size + 1) = some j := hj; have := Option.some.inj h9; omega))
              have HO4 := Lib.hid hown1
              have hs4 : w.heap.size ≤ W4.heap.size := HB4.out.size
              clear hown1 hgr1
              go_wp2_with (at_builtin; refine wpList_append_own _ rfl (.tmp 119) (.tmp 121) 25 rfl w.heap.size 30 i0 (.complex .f64 0 0) 1 16 Try.underlying25 hi hz0 hz1 hz2 rfl (by decide) _ _ _ rfl (HO4.out.alloc _) ⟨W4.heap.size, 0, none⟩ 1 1 [zv (nz z)] rfl rfl ?d1 ?d2 ?d3 ?d4 ?d5 ?_)
              case d1 =>
                intro i u hj
                match i, hj with
                | 0, hj => simp at hj; subst hj; simp [Addr.add]
              case d2 => intro u hu; simp at hu; subst hu; rfl
              case d3 => unfold maxLen; omega
              case d4 => omega
              case d5 => rw [World.size_alloc]; omega
              · intro v2 W5 hown2 hgr2 _
                have HN := Lib.hid (sp_next hex hkl HEV.out HOPS.out HRN.out hfin HFC.out HZ.out (bl_grown (bl_alloc HB4.out _) hgr2 (fun j hj => (HO4.out.lt j hj).1)) rfl rfl hown2)
                clear hown2 hgr2
                go_wp2
                case roundEnd => exact HN.out
        · obtain rfl : a = 1 := ha.symm.trans hops'
          obtain ⟨z, rfl⟩ : ∃ z, ops = [z] := List.length_eq_one_iff.1 hops'
          have hz := hfin z (by simp)
          have q0 : wr.cell? ⟨gs, s0.length, none⟩ = some (zv z) := hc0 0 (by simp)
          clear hops' ha hc0
          go_wp2_with fail
          go_at_call 25
          refine (takes_is _ 1 _ rfl).mono ?_
          rintro e w3 ⟨rfl, hw⟩
          have hw := hw.symm
          subst hw
          go_wp2_with fail
          go_at_call 26
          refine (conjS_any z _).mono ?_
          rintro e w4 ⟨rfl, hw⟩
          subst hw
          have HRES : Hid (Res _ (kz z)) := Lib.hid (Res.self hz.ok.conj)
          go_wp2_with fail
          go_at_call 29
          cases hfz : finZ (kz z)
          · have HFZ := Lib.hid hfz
            have HF2 := Lib.hid (ex_none (w := w) hkl HEV.out HOPS.out HX.out (show evF ⟨5, 0, 0, 0⟩ [z] zs = some (cz (kz z)) from rfl) HRES.out hfz)
            refine (finS_is (kz z) false hfz _).mono ?_
            rintro e w5 ⟨rfl, n5, hw⟩
            subst hw
            go_wp2
            exact bodyPost_ret (v := .tuple #[zv (0, 0), .bool false]) (by simp (maxDischargeDepth := 6) [results, Try.results12, go_sem]) rfl (HF2.out _ (by repeat (first | exact Below.refl _ _ | assumption | refine bl_drewN ?_ _ | refine bl_drew ?_ | refine bl_alloc ?_ _ | refine bl_set ?_ (by first | (simp; done) | (simp; omega) | omega | (simp [World.setCell]; done) | (simp [World.setCell]; omega)) _ | refine bl_call ?_ (by assumption))))
          · have HFZ := Lib.hid hfz
            have HZ := Lib.hid (fin_ZFin HRES.out.zok hfz)
            have HFC := Lib.hid (ex_val (zs := zs) (ops := [z]) HX.out (show evF ⟨5, 0, 0, 0⟩ [z] zs = some (cz (kz z)) from rfl) HRES.out hfz)
            refine (finS_is (kz z) true hfz _).mono ?_
            rintro e w5 ⟨rfl, n5, hw⟩
            subst hw
            go_wp2_with (at_builtin; refine wpList_append_own _ rfl (.tmp 115) (.tmp 118) 25 rfl w.heap.size 30 i0 (.complex .f64 0 0) 1 16 Try.underlying25 hi hz0 hz1 hz2 rfl (by decide) _ _ _ rfl (own_empty' _ _ _ ?d0 ?d6) ⟨gs, 0, none⟩ s0.length cs (s0.map zv) rfl (by simp) ?d1 ?d2 ?d3 ?d4 ?d5 ?_)
            case d0 => simp
            case d1 => exact (own_below HO.out (show Below wr.heap.size wr _ from by repeat (first | exact Below.refl _ _ | assumption | refine bl_drewN ?_ _ | refine bl_drew ?_ | refine bl_alloc ?_ _ | refine bl_set ?_ (by first | (simp; done) | (simp; omega) | omega | (simp [World.setCell]; done) | (simp [World.setCell]; omega)) _ | refine bl_call ?_ (by assumption)))).cells rfl
            case d2 => exact zv_one s0
            case d3 => unfold maxLen; omega
            case d4 => omega
            case d5 => simp; omega
            case d6 => simp; omega
            · intro v1 W4 hown1 hgr1 _
              have HB4 := Lib.hid (bl_grown (w := w) (by repeat (first | exact Below.refl _ _ | assumption | refine bl_drewN ?_ _ | refine bl_drew ?_ | refine bl_alloc ?_ _ | refine bl_set ?_ (by first | (simp; done) | (simp; omega) | omega | (simp [World.setCell]; done) | (simp [World.setCell]; omega)) _ | refine bl_call ?_ (by assumption))) hgr1 (fun j hj => by have h9 : some (wr.heap.size + 1) = some j := hj; have := Option.some.inj h9; omega))
              have HO4 := Lib.hid hown1
              have hs4 : w.heap.size ≤ W4.heap.size := HB4.out.size
              clear hown1 hgr1
              go_wp2_with (at_builtin; refine wpList_append_own _ rfl (.tmp 119) (.tmp 121) 25 rfl w.heap.size 30 i0 (.complex .f64 0 0) 1 16 Try.underlying25 hi hz0 hz1 hz2 rfl (by decide) _ _ _ rfl (HO4.out.alloc _) ⟨W4.heap.size, 0, none⟩ 1 1 [zv (kz z)] rfl rfl ?d1 ?d2 ?d3 ?d4 ?d5 ?_)
              case d1 =>
                intro i u hj
                match i, hj with
                | 0, hj => simp at hj; subst hj; simp [Addr.add]
              case d2 => intro u hu; simp at hu; subst hu; rfl
              case d3 => unfold maxLen; omega
              case d4 => omega
              case d5 => rw [World.size_alloc]; omega
              · intro v2 W5 hown2 hgr2 _
                have HN := Lib.hid (sp_next hex hkl HEV.out HOPS.out HRN.out hfin HFC.out HZ.out (bl_grown (bl_alloc HB4.out _) hgr2 (fun j hj => (HO4.out.lt j hj).1)) rfl rfl hown2)
                clear hown2 hgr2
                go_wp2
                case roundEnd => exact HN.out
        · obtain rfl : a = 1 := ha.symm.trans hops'
          obtain ⟨z, rfl⟩ : ∃ z, ops = [z] := List.length_eq_one_iff.1 hops'
          have hz := hfin z (by simp)
          have q0 : wr.cell? ⟨gs, s0.length, none⟩ = some (zv z) := hc0 0 (by simp)
          clear hops' ha hc0
          go_wp2_with fail
          go_at_call 25
          refine (takes_is _ 1 _ rfl).mono ?_
          rintro e w3 ⟨rfl, hw⟩
          have hw := hw.symm
          subst hw
          have HRES : Hid (Res _ (z.1, 0)) := Lib.hid (Res.self ⟨hz.1.1, Nat.two_pow_pos 64⟩)
          go_wp2_with fail
          go_at_call 29
          cases hfz : finZ (z.1, 0)
          · have HFZ := Lib.hid hfz
            have HF2 := Lib.hid (ex_none (w := w) hkl HEV.out HOPS.out HX.out (show evF ⟨6, 0, 0, 0⟩ [z] zs = some (cz (z.1, 0)) from rfl) HRES.out hfz)
            refine (finS_is (z.1, 0) false hfz _).mono ?_
            rintro e w5 ⟨rfl, n5, hw⟩
            subst hw
            go_wp2
            exact bodyPost_ret (v := .tuple #[zv (0, 0), .bool false]) (by simp (maxDischargeDepth := 6) [results, Try.results12, go_sem]) rfl (HF2.out _ (by repeat (first | exact Below.refl _ _ | assumption | refine bl_drewN ?_ _ | refine bl_drew ?_ | refine bl_alloc ?_ _ | refine bl_set ?_ (by first | (simp; done) | (simp; omega) | omega | (simp [World.setCell]; done) | (simp [World.setCell]; omega)) _ | refine bl_call ?_ (by assumption))))
          · have HFZ := Lib.hid hfz
            have HZ := Lib.hid (fin_ZFin HRES.out.zok hfz)
            have HFC := Lib.hid (ex_val (zs := zs) (ops := [z]) HX.out (show evF ⟨6, 0, 0, 0⟩ [z] zs = some (cz (z.1, 0)) from rfl) HRES.out hfz)
            refine (finS_is (z.1, 0) true hfz _).mono ?_
            rintro e w5 ⟨rfl, n5, hw⟩
            subst hw
            go_wp2_with (at_builtin; refine wpList_append_own _ rfl (.tmp 115) (.tmp 118) 25 rfl w.heap.size 30 i0 (.complex .f64 0 0) 1 16 Try.underlying25 hi hz0 hz1 hz2 rfl (by decide) _ _ _ rfl (own_empty' _ _ _ ?d0 ?d6) ⟨gs, 0, none⟩ s0.length cs (s0.map zv) rfl (by simp) ?d1 ?d2 ?d3 ?d4 ?d5 ?_)
            case d0 => simp
            case d1 => exact (own_below HO.out (show Below wr.heap.size wr _ from by repeat (first | exact Below.refl _ _ | assumption | refine bl_drewN ?_ _ | refine bl_drew ?_ | refine bl_alloc ?_ _ | refine bl_set ?_ (by first | (simp; done) | (simp; omega) | omega | (simp [World.setCell]; done) | (simp [World.setCell]; omega)) _ | refine bl_call ?_ (by assumption)))).cells rfl
            case d2 => exact zv_one s0
            case d3 => unfold maxLen; omega
            case d4 => omega
            case d5 => simp; omega
            case d6 => simp; omega
            · intro v1 W4 hown1 hgr1 _
              have HB4 := Lib.hid (bl_grown (w := w) (by repeat (first | exact Below.refl _ _ | assumption | refine bl_drewN ?_ _ | refine bl_drew ?_ | refine bl_alloc ?_ _ | refine bl_set ?_ (by first | (simp; done) | (simp; omega) | omega | (simp [World.setCell]; done) | (simp [World.setCell]; omega)) _ | refine bl_call ?_ (by assumption))) hgr1 (fun j hj => by have h9 : some (wr.heap.size + 1) = some j := hj; have := Option.some.inj h9; omega))
              have HO4 := Lib.hid hown1
              have hs4 : w.heap.size ≤ W4.heap.size := HB4.out.size
              clear hown1 hgr1
              go_wp2_with (at_builtin; refine wpList_append_own _ rfl (.tmp 119) (.tmp 121) 25 rfl w.heap.size 30 i0 (.complex .f64 0 0) 1 16 Try.underlying25 hi hz0 hz1 hz2 rfl (by decide) _ _ _ rfl (HO4.out.alloc _) ⟨W4.heap.size, 0, none⟩ 1 1 [zv (z.1, 0)] rfl rfl ?d1 ?d2 ?d3 ?d4 ?d5 ?_)
              case d1 =>
                intro i u hj
                match i, hj with
                | 0, hj => simp at hj; subst hj; simp [Addr.add]
              case d2 => intro u hu; simp at hu; subst hu; rfl
              case d3 => unfold maxLen; omega
              case d4 => omega
              case d5 => rw [World.size_alloc]; omega
              · intro v2 W5 hown2 hgr2 _
                have HN := Lib.hid (sp_next hex hkl HEV.out HOPS.out HRN.out hfin HFC.out HZ.out (bl_grown (bl_alloc HB4.out _) hgr2 (fun j hj => (HO4.out.lt j hj).1)) rfl rfl hown2)
                clear hown2 hgr2
                go_wp2
                case roundEnd => exact HN.out
        · obtain rfl : a = 1 := ha.symm.trans hops'
          obtain ⟨z, rfl⟩ : ∃ z, ops = [z] := List.length_eq_one_iff.1 hops'
          have hz := hfin z (by simp)
          have q0 : wr.cell? ⟨gs, s0.length, none⟩ = some (zv z) := hc0 0 (by simp)
          clear hops' ha hc0
          go_wp2_with fail
          go_at_call 25
          refine (takes_is _ 1 _ rfl).mono ?_
          rintro e w3 ⟨rfl, hw⟩
          have hw := hw.symm
          subst hw
          have HRES : Hid (Res _ (z.2, 0)) := Lib.hid (Res.self ⟨hz.2.1, Nat.two_pow_pos 64⟩)
          go_wp2_with fail
          go_at_call 29
          cases hfz : finZ (z.2, 0)
          · have HFZ := Lib.hid hfz
            have HF2 := Lib.hid (ex_none (w := w) hkl HEV.out HOPS.out HX.out (show evF ⟨7, 0, 0, 0⟩ [z] zs = some (cz (z.2, 0)) from rfl) HRES.out hfz)
            refine (finS_is (z.2, 0) false hfz _).mono ?_
            rintro e w5 ⟨rfl, n5, hw⟩
            subst hw
            go_wp2
            exact bodyPost_ret (v := .tuple #[zv (0, 0), .bool false]) (by simp (maxDischargeDepth := 6) [results, Try.results12, go_sem]) rfl (HF2.out _ (by repeat (first | exact Below.refl _ _ | assumption | refine bl_drewN ?_ _ | refine bl_drew ?_ | refine bl_alloc ?_ _ | refine bl_set ?_ (by first | (simp; done) | (simp; omega) | omega | (simp [World.setCell]; done) | (simp [World.setCell]; omega)) _ | refine bl_call ?_ (by assumption))))
          · have HFZ := Lib.hid hfz
            have HZ := Lib.hid (fin_ZFin HRES.out.zok hfz)
            have HFC := Lib.hid (ex_val (zs := zs) (ops := [z]) HX.out (show evF ⟨7, 0, 0, 0⟩ [z] zs = some (cz (z.2, 0)) from rfl) HRES.out hfz)
            refine (finS_is (z.2, 0) true hfz _).mono ?_
            rintro e w5 ⟨rfl, n5, hw⟩
            subst hw
            go_wp2_with (at_builtin; refine wpList_append_own _ rfl (.tmp 115) (.tmp 118) 25 rfl w.heap.size 30 i0 (.complex .f64 0 0) 1 16 Try.underlying25 hi hz0 hz1 hz2 rfl (by decide) _ _ _ rfl (own_empty' _ _ _ ?d0 ?d6) ⟨gs, 0, none⟩ s0.length cs (s0.map zv) rfl (by simp) ?d1 ?d2 ?d3 ?d4 ?d5 ?_)
            case d0 => simp
            case d1 => exact (own_below HO.out (show Below wr.heap.size wr _ from by repeat (first | exact Below.refl _ _ | assumption | refine bl_drewN ?_ _ | refine bl_drew ?_ | refine bl_alloc ?_ _ | refine bl_set ?_ (by first | (simp; done) | (simp; omega) | omega | (simp [World.setCell]; done) | (simp [World.setCell]; omega)) _ | refine bl_call ?_ (by assumption)))).cells rfl
            case d2 => exact zv_one s0
            case d3 => unfold maxLen; omega
            case d4 => omega
            case d5 => simp; omega
            case d6 => simp; omega
            · intro v1 W4 hown1 hgr1 _
              have HB4 := Lib.hid (bl_grown (w := w) (by repeat (first | exact Below.refl _ _ | assumption | refine bl_drewN ?_ _ | refine bl_drew ?_ | refine bl_alloc ?_ _ | refine bl_set ?_ (by first | (simp; done) | (simp; omega) | omega | (simp [World.setCell]; done) | (simp [World.setCell]; omega)) _ | refine bl_call ?_ (by assumption))) hgr1 (fun j hj => by have h9 : some (wr.heap.size + 1) = some j := hj; have := Option.some.inj h9; omega))
              have HO4 := Lib.hid hown1
              have hs4 : w.heap.size ≤ W4.heap.size := HB4.out.size
              clear hown1 hgr1
              go_wp2_with (at_builtin; refine wpList_append_own _ rfl (.tmp 119) (.tmp 121) 25 rfl w.heap.size 30 i0 (.complex .f64 0 0) 1 16 Try.underlying25 hi hz0 hz1 hz2 rfl (by decide) _ _ _ rfl (HO4.out.alloc _) ⟨W4.heap.size, 0, none⟩ 1 1 [zv (z.2, 0)] rfl rfl ?d1 ?d2 ?d3 ?d4 ?d5 ?_)
              case d1 =>
                intro i u hj
                match i, hj with
                | 0, hj => simp at hj; subst hj; simp [Addr.add]
              case d2 => intro u hu; simp at hu; subst hu; rfl
              case d3 => unfold maxLen; omega
              case d4 => omega
              case d5 => rw [World.size_alloc]; omega
              · intro v2 W5 hown2 hgr2 _
                have HN := Lib.hid (sp_next hex hkl HEV.out HOPS.out HRN.out hfin HFC.out HZ.out (bl_grown (bl_alloc HB4.out _) hgr2 (fun j hj => (HO4.out.lt j hj).1)) rfl rfl hown2)
                clear hown2 hgr2
                go_wp2
                case roundEnd => exact HN.out
        · obtain rfl : a = 2 := ha.symm.trans hops'
          obtain ⟨z, y, rfl⟩ : ∃ z y, ops = [z, y] := by
            match ops, hops' with
            | [z, y], _ => exact ⟨z, y, rfl⟩
          have hz := hfin z (by simp)
          have hy := hfin y (by simp)
          have q0 : wr.cell? ⟨gs, s0.length, none⟩ = some (zv z) := hc0 0 (by simp)
          have q1 : wr.cell? ⟨gs, s0.length + 1, none⟩ = some (zv y) := hc0 1 (by simp)
          clear hops' ha hc0
          obtain ⟨fe, ff, fn, hll, hlr⟩ := add_law Try.prog 30 z y
          go_wp2_with fail
          go_at_call 25
          refine (takes_is _ 2 _ rfl).mono ?_
          rintro e w3 ⟨rfl, hw⟩
          have hw := hw.symm
          subst hw
          have HR := hlr (wr.alloc (.cells #[.int .i64 8, .int .i64 0, .complex .f64 0 0] 36))
          go_wp2_with fail
          generalize fe (wr.alloc (.cells #[.int .i64 8, .int .i64 0, .complex .f64 0 0] 36)) = xe at HR ⊢
          generalize ff (wr.alloc (.cells #[.int .i64 8, .int .i64 0, .complex .f64 0 0] 36)) = xf at HR ⊢
          generalize fn (wr.alloc (.cells #[.int .i64 8, .int .i64 0, .complex .f64 0 0] 36)) = xn
          clear hll hlr
          have HRES : Hid (Res _ (xe, xf)) := Lib.hid (HR)
          go_at_call 29
          cases hfz : finZ (xe, xf)
          · have HFZ := Lib.hid hfz
            have HF2 := Lib.hid (ex_none (w := w) hkl HEV.out HOPS.out HX.out (show evF ⟨8, 0, 0, 0⟩ [z, y] zs = some (addF z y) from rfl) HRES.out hfz)
            refine (finS_is (xe, xf) false hfz _).mono ?_
            rintro e w5 ⟨rfl, n5, hw⟩
            subst hw
            go_wp2
            exact bodyPost_ret (v := .tuple #[zv (0, 0), .bool false]) (by simp (maxDischargeDepth := 6) [results, Try.results12, go_sem]) rfl (HF2.out _ (by repeat (first | exact Below.refl _ _ | assumption | refine bl_drewN ?_ _ | refine bl_drew ?_ | refine bl_alloc ?_ _ | refine bl_set ?_ (by first | (simp; done) | (simp; omega) | omega | (simp [World.setCell]; done) | (simp [World.setCell]; omega)) _ | refine bl_call ?_ (by assumption))))
          · have HFZ := Lib.hid hfz
            have HZ := Lib.hid (fin_ZFin HRES.out.zok hfz)
            have HFC := Lib.hid (ex_val (zs := zs) (ops := [z, y]) HX.out (show evF ⟨8, 0, 0, 0⟩ [z, y] zs = some (addF z y) from rfl) HRES.out hfz)
            refine (finS_is (xe, xf) true hfz _).mono ?_
            rintro e w5 ⟨rfl, n5, hw⟩
            subst hw
            go_wp2_with (at_builtin; refine wpList_append_own _ rfl (.tmp 115) (.tmp 118) 25 rfl w.heap.size 30 i0 (.complex .f64 0 0) 1 16 Try.underlying25 hi hz0 hz1 hz2 rfl (by decide) _ _ _ rfl (own_empty' _ _ _ ?d0 ?d6) ⟨gs, 0, none⟩ s0.length cs (s0.map zv) rfl (by simp) ?d1 ?d2 ?d3 ?d4 ?d5 ?_)
            case d0 => simp
            case d1 => exact (own_below HO.out (show Below wr.heap.size wr _ from by repeat (first | exact Below.refl _ _ | assumption | refine bl_drewN ?_ _ | refine bl_drew ?_ | refine bl_alloc ?_ _ | refine bl_set ?_ (by first | (simp; done) | (simp; omega) | omega | (simp [World.setCell]; done) | (simp [World.setCell]; omega)) _ | refine bl_call ?_ (by assumption)))).cells rfl
            case d2 => exact zv_one s0
            case d3 => unfold maxLen; omega
            case d4 => omega
            case d5 => simp; omega
            case d6 => simp; omega
            · intro v1 W4 hown1 hgr1 _
              have HB4 := Lib.hid (bl_grown (w := w) (by repeat (first | exact Below.refl _ _ | assumption | refine bl_drewN ?_ _ | refine bl_drew ?_ | refine bl_alloc ?_ _ | refine bl_set ?_ (by first | (simp; done) | (simp; omega) | omega | (simp [World.setCell]; done) | (simp [World.setCell]; omega)) _ | refine bl_call ?_ (by assumption))) hgr1 (fun j hj => by have h9 : some (wr.heap.size + 1) = some j := hj; have := Option.some.inj h9; omega))
              have HO4 := Lib.hid hown1
              have hs4 : w.heap.size ≤ W4.heap.size := HB4.out.size
              clear hown1 hgr1
              go_wp2_with (at_builtin; refine wpList_append_own _ rfl (.tmp 119) (.tmp 121) 25 rfl w.heap.size 30 i0 (.complex .f64 0 0) 1 16 Try.underlying25 hi hz0 hz1 hz2 rfl (by decide) _ _ _ rfl (HO4.out.alloc _) ⟨W4.heap.size, 0, none⟩ 1 1 [zv (xe, xf)] rfl rfl ?d1 ?d2 ?d3 ?d4 ?d5 ?_)
              case d1 =>
                intro i u hj
                match i, hj with
                | 0, hj => simp at hj; subst hj; simp [Addr.add]
              case d2 => intro u hu; simp at hu; subst hu; rfl
              case d3 => unfold maxLen; omega
              case d4 => omega
              case d5 => rw [World.size_alloc]; omega
              · intro v2 W5 hown2 hgr2 _
                have HN := Lib.hid (sp_next hex hkl HEV.out HOPS.out HRN.out hfin HFC.out HZ.out (bl_grown (bl_alloc HB4.out _) hgr2 (fun j hj => (HO4.out.lt j hj).1)) rfl rfl hown2)
                clear hown2 hgr2
                go_wp2
                case roundEnd => exact HN.out
        · obtain rfl : a = 2 := ha.symm.trans hops'
          obtain ⟨z, y, rfl⟩ : ∃ z y, ops = [z, y] := by
            match ops, hops' with
            | [z, y], _ => exact ⟨z, y, rfl⟩
          have hz := hfin z (by simp)
          have hy := hfin y (by simp)
          have q0 : wr.cell? ⟨gs, s0.length, none⟩ = some (zv z) := hc0 0 (by simp)
          have q1 : wr.cell? ⟨gs, s0.length + 1, none⟩ = some (zv y) := hc0 1 (by simp)
          clear hops' ha hc0
          obtain ⟨fe, ff, fn, hll, hlr⟩ := sub_law Try.prog 30 z y
          go_wp2_with fail
          go_at_call 25
          refine (takes_is _ 2 _ rfl).mono ?_
          rintro e w3 ⟨rfl, hw⟩
          have hw := hw.symm
          subst hw
          have HR := hlr (wr.alloc (.cells #[.int .i64 9, .int .i64 0, .complex .f64 0 0] 36))
          go_wp2_with fail
          generalize fe (wr.alloc (.cells #[.int .i64 9, .int .i64 0, .complex .f64 0 0] 36)) = xe at HR ⊢
          generalize ff (wr.alloc (.cells #[.int .i64 9, .int .i64 0, .complex .f64 0 0] 36)) = xf at HR ⊢
          generalize fn (wr.alloc (.cells #[.int .i64 9, .int .i64 0, .complex .f64 0 0] 36)) = xn
          clear hll hlr
          have HRES : Hid (Res _ (xe, xf)) := Lib.hid (HR)
          go_at_call 29
          cases hfz : finZ (xe, xf)
          · have HFZ := Lib.hid hfz
            have HF2 := Lib.hid (ex_none (w := w) hkl HEV.out HOPS.out HX.out (show evF ⟨9, 0, 0, 0⟩ [z, y] zs = some (subF z y) from rfl) HRES.out hfz)
            refine (finS_is (xe, xf) false hfz _).mono ?_
            rintro e w5 ⟨rfl, n5, hw⟩
            subst hw
            go_wp2
            exact bodyPost_ret (v := .tuple #[zv (0, 0), .bool false]) (by simp (maxDischargeDepth := 6) [results, Try.results12, go_sem]) rfl (HF2.out _ (by repeat (first | exact Below.refl _ _ | assumption | refine bl_drewN ?_ _ | refine bl_drew ?_ | refine bl_alloc ?_ _ | refine bl_set ?_ (by first | (simp; done) | (simp; omega) | omega | (simp [World.setCell]; done) | (simp [World.setCell]; omega)) _ | refine bl_call ?_ (by assumption))))
          · have HFZ := Lib.hid hfz
            have HZ := Lib.hid (fin_ZFin HRES.out.zok hfz)
            have HFC := Lib.hid (ex_val (zs := zs) (ops := [z, y]) HX.out (show evF ⟨9, 0, 0, 0⟩ [z, y] zs = some (subF z y) from rfl) HRES.out hfz)
            refine (finS_is (xe, xf) true hfz _).mono ?_
            rintro e w5 ⟨rfl, n5, hw⟩
            subst hw
            go_wp2_with (at_builtin; refine wpList_append_own _ rfl (.tmp 115) (.tmp 118) 25 rfl w.heap.size 30 i0 (.complex .f64 0 0) 1 16 Try.underlying25 hi hz0 hz1 hz2 rfl (by decide) _ _ _ rfl (own_empty' _ _ _ ?d0 ?d6) ⟨gs, 0, none⟩ s0.length cs (s0.map zv) rfl (by simp) ?d1 ?d2 ?d3 ?d4 ?d5 ?_)
            case d0 => simp
            case d1 => exact (own_below HO.out (show Below wr.heap.size wr _ from by repeat (first | exact Below.refl _ _ | assumption | refine bl_drewN ?_ _ | refine bl_drew ?_ | refine bl_alloc ?_ _ | refine bl_set ?_ (by first | (simp; done) | (simp; omega) | omega | (simp [World.setCell]; done) | (simp [World.setCell]; omega)) _ | refine bl_call ?_ (by assumption)))).cells rfl
            case d2 => exact zv_one s0
            case d3 => unfold maxLen; omega
            case d4 => omega
            case d5 => simp; omega
            case d6 => simp; omega
            · intro v1 W4 hown1 hgr1 _
              have HB4 := Lib.hid (bl_grown (w := w) (by repeat (first | exact Below.refl _ _ | assumption | refine bl_drewN ?_ _ | refine bl_drew ?_ | refine bl_alloc ?_ _ | refine bl_set ?_ (by first | (simp; done) | (simp; omega) | omega | (simp [World.setCell]; done) | (simp [World.setCell]; omega)) _ | refine bl_call ?_ (by assumption))) hgr1 (fun j hj => by have h9 : some (wr.heap.size + 1) = some j := hj; have := Option.some.inj h9; omega))
              have HO4 := Lib.hid hown1
              have hs4 : w.heap.size ≤ W4.heap.size := HB4.out.size
              clear hown1 hgr1
              go_wp2_with (at_builtin; refine wpList_append_own _ rfl (.tmp 119) (.tmp 121) 25 rfl w.heap.size 30 i0 (.complex .f64 0 0) 1 16 Try.underlying25 hi hz0 hz1 hz2 rfl (by decide) _ _ _ rfl (HO4.out.alloc _) ⟨W4.heap.size, 0, none⟩ 1 1 [zv (xe, xf)] rfl rfl ?d1 ?d2 ?d3 ?d4 ?d5 ?_)
              case d1 =>
                intro i u hj
                match i, hj with
                | 0, hj => simp at hj; subst hj; simp [Addr.add]
              case d2 => intro u hu; simp at hu; subst hu; rfl
              case d3 => unfold maxLen; omega
              case d4 => omega
              case d5 => rw [World.size_alloc]; omega
              · intro v2 W5 hown2 hgr2 _
                have HN := Lib.hid (sp_next hex hkl HEV.out HOPS.out HRN.out hfin HFC.out HZ.out (bl_grown (bl_alloc HB4.out _) hgr2 (fun j hj => (HO4.out.lt j hj).1)) rfl rfl hown2)
                clear hown2 hgr2
                go_wp2
                case roundEnd => exact HN.out
        · obtain rfl : a = 2 := ha.symm.trans hops'
          obtain ⟨z, y, rfl⟩ : ∃ z y, ops = [z, y] := by
            match ops, hops' with
            | [z, y], _ => exact ⟨z, y, rfl⟩
          have hz := hfin z (by simp)
          have hy := hfin y (by simp)
          have q0 : wr.cell? ⟨gs, s0.length, none⟩ = some (zv z) := hc0 0 (by simp)
          have q1 : wr.cell? ⟨gs, s0.length + 1, none⟩ = some (zv y) := hc0 1 (by simp)
          clear hops' ha hc0
          go_wp2_with fail
          go_at_call 25
          refine (takes_is _ 2 _ rfl).mono ?_
          rintro e w3 ⟨rfl, hw⟩
          have hw := hw.symm
          subst hw
          go_wp2_with fail
          go_at_call 27
          refine (times_any z y _).mono ?_
          rintro e w4 ⟨x4, n4, rfl, hres4, hw⟩
          subst hw
          have HRES : Hid (Res _ x4) := Lib.hid (hres4)
          go_wp2_with fail
          go_at_call 29
          cases hfz : finZ x4
          · have HFZ := Lib.hid hfz
            have HF2 := Lib.hid (ex_none (w := w) hkl HEV.out HOPS.out HX.out (show evF ⟨10, 0, 0, 0⟩ [z, y] zs = some (mulF z y) from rfl) HRES.out hfz)
            refine (finS_is x4 false hfz _).mono ?_
            rintro e w5 ⟨rfl, n5, hw⟩
            subst hw
            go_wp2
            exact bodyPost_ret (v := .tuple #[zv (0, 0), .bool false]) (by simp (maxDischargeDepth := 6) [results, Try.results12, go_sem]) rfl (HF2.out _ (by repeat (first | exact Below.refl _ _ | assumption | refine bl_drewN ?_ _ | refine bl_drew ?_ | refine bl_alloc ?_ _ | refine bl_set ?_ (by first | (simp; done) | (simp; omega) | omega | (simp [World.setCell]; done) | (simp [World.setCell]; omega)) _ | refine bl_call ?_ (by assumption))))
          · have HFZ := Lib.hid hfz
            have HZ := Lib.hid (fin_ZFin HRES.out.zok hfz)
            have HFC := Lib.hid (ex_val (zs := zs) (ops := [z, y]) HX.out (show evF ⟨10, 0, 0, 0⟩ [z, y] zs = some (mulF z y) from rfl) HRES.out hfz)
            refine (finS_is x4 true hfz _).mono ?_
            rintro e w5 ⟨rfl, n5, hw⟩
            subst hw
            go_wp2_with (at_builtin; refine wpList_append_own _ rfl (.tmp 115) (.tmp 118) 25 rfl w.heap.size 30 i0 (.complex .f64 0 0) 1 16 Try.underlying25 hi hz0 hz1 hz2 rfl (by decide) _ _ _ rfl (own_empty' _ _ _ ?d0 ?d6) ⟨gs, 0, none⟩ s0.length cs (s0.map zv) rfl (by simp) ?d1 ?d2 ?d3 ?d4 ?d5 ?_)
            case d0 => simp
            case d1 => exact (own_below HO.out (show Below wr.heap.size wr _ from by repeat (first | exact Below.refl _ _ | assumption | refine bl_drewN ?_ _ | refine bl_drew ?_ | refine bl_alloc ?_ _ | refine bl_set ?_ (by first | (simp; done) | (simp; omega) | omega | (simp [World.setCell]; done) | (simp [World.setCell]; omega)) _ | refine bl_call ?_ (by assumption)))).cells rfl
            case d2 => exact zv_one s0
            case d3 => unfold maxLen; omega
            case d4 => omega
            case d5 => simp; omega
            case d6 => simp; omega
            · intro v1 W4 hown1 hgr1 _
              have HB4 := Lib.hid (bl_grown (w := w) (by repeat (first | exact Below.refl _ _ | assumption | refine bl_drewN ?_ _ | refine bl_drew ?_ | refine bl_alloc ?_ _ | refine bl_set ?_ (by first | (simp; done) | (simp; omega) | omega | (simp [World.setCell]; done) | (simp [World.setCell]; omega)) _ | refine bl_call ?_ (by assumption))) hgr1 (fun j hj => by have h9 : some (wr.heap.size + 1) = some j := hj; have := Option.some.inj h9; omega))
              have HO4 := Lib.hid hown1
              have hs4 : w.heap.size ≤ W4.heap.size := HB4.out.size
              clear hown1 hgr1
              go_wp2_with (at_builtin; refine wpList_append_own _ rfl (.tmp 119) (.tmp 121) 25 rfl w.heap.size 30 i0 (.complex .f64 0 0) 1 16 Try.underlying25 hi hz0 hz1 hz2 rfl (by decide) _ _ _ rfl (HO4.out.alloc _) ⟨W4.heap.size, 0, none⟩ 1 1 [zv x4] rfl rfl ?d1 ?d2 ?d3 ?d4 ?d5 ?_)
              case d1 =>
                intro i u hj
                match i, hj with
                | 0, hj => simp at hj; subst hj; simp [Addr.add]
              case d2 => intro u hu; simp at hu; subst hu; rfl
              case d3 => unfold maxLen; omega
              case d4 => omega
              case d5 => rw [World.size_alloc]; omega
              · intro v2 W5 hown2 hgr2 _
                have HN := Lib.hid (sp_next hex hkl HEV.out HOPS.out HRN.out hfin HFC.out HZ.out (bl_grown (bl_alloc HB4.out _) hgr2 (fun j hj => (HO4.out.lt j hj).1)) rfl rfl hown2)
                clear hown2 hgr2
                go_wp2
                case roundEnd => exact HN.out
        · obtain rfl : a = 2 := ha.symm.trans hops'
          obtain ⟨z, y, rfl⟩ : ∃ z y, ops = [z, y] := by
            match ops, hops' with
            | [z, y], _ => exact ⟨z, y, rfl⟩
          have hz := hfin z (by simp)
          have hy := hfin y (by simp)
          have q0 : wr.cell? ⟨gs, s0.length, none⟩ = some (zv z) := hc0 0 (by simp)
          have q1 : wr.cell? ⟨gs, s0.length + 1, none⟩ = some (zv y) := hc0 1 (by simp)
          clear hops' ha hc0
          cases he : eqZ y (0, 0)
          · have hq' : (FloatKind.f64.format.order y.1 0 == some .eq && FloatKind.f64.format.order y.2 0 == some .eq) = false := he
            obtain ⟨fe, ff, fn, hll, hlr⟩ := quo_law Try.prog 30 z y hz.1 hz.2 hy.1 hy.2 hq'
            go_wp2_with fail
            go_at_call 25
            refine (takes_is _ 2 _ rfl).mono ?_
            rintro e w3 ⟨rfl, hw⟩
            have hw := hw.symm
            subst hw
            have HR := hlr (wr.alloc (.cells #[.int .i64 11, .int .i64 0, .complex .f64 0 0] 36))
            go_wp2_with fail
            generalize fe (wr.alloc (.cells #[.int .i64 11, .int .i64 0, .complex .f64 0 0] 36)) = xe at HR ⊢
            generalize ff (wr.alloc (.cells #[.int .i64 11, .int .i64 0, .complex .f64 0 0] 36)) = xf at HR ⊢
            generalize fn (wr.alloc (.cells #[.int .i64 11, .int .i64 0, .complex .f64 0 0] 36)) = xn
            clear hll hlr
            have HRES : Hid (Res _ (xe, xf)) := Lib.hid (HR)
            go_at_call 29
            cases hfz : finZ (xe, xf)
            · have HFZ := Lib.hid hfz
              have HF2 := Lib.hid (ex_none (w := w) hkl HEV.out HOPS.out HX.out (show (if eqZ y (0, 0) then none else some (quoF z y)) = some (quoF z y) by rw [he]; rfl) HRES.out hfz)
              refine (finS_is (xe, xf) false hfz _).mono ?_
              rintro e w5 ⟨rfl, n5, hw⟩
              subst hw
              go_wp2
              exact bodyPost_ret (v := .tuple #[zv (0, 0), .bool false]) (by simp (maxDischargeDepth := 6) [results, Try.results12, go_sem]) rfl (HF2.out _ (by repeat (first | exact Below.refl _ _ | assumption | refine bl_drewN ?_ _ | refine bl_drew ?_ | refine bl_alloc ?_ _ | refine bl_set ?_ (by first | (simp; done) | (simp; omega) | omega | (simp [World.setCell]; done) | (simp [World.setCell]; omega)) _ | refine bl_call ?_ (by assumption))))
            · have HFZ := Lib.hid hfz
              have HZ := Lib.hid (fin_ZFin HRES.out.zok hfz)
              have HFC := Lib.hid (ex_val (zs := zs) (ops := [z, y]) HX.out (show (if eqZ y (0, 0) then none else some (quoF z y)) = some (quoF z y) by rw [he]; rfl) HRES.out hfz)
              refine (finS_is (xe, xf) true hfz _).mono ?_
              rintro e w5 ⟨rfl, n5, hw⟩
              subst hw
              go_wp2_with (at_builtin; refine wpList_append_own _ rfl (.tmp 115) (.tmp 118) 25 rfl w.heap.size 30 i0 (.complex .f64 0 0) 1 16 Try.underlying25 hi hz0 hz1 hz2 rfl (by decide) _ _ _ rfl (own_empty' _ _ _ ?d0 ?d6) ⟨gs, 0, none⟩ s0.length cs (s0.map zv) rfl (by simp) ?d1 ?d2 ?d3 ?d4 ?d5 ?_)
              case d0 => simp
              case d1 => exact (own_below HO.out (show Below wr.heap.size wr _ from by repeat (first | exact Below.refl _ _ | assumption | refine bl_drewN ?_ _ | refine bl_drew ?_ | refine bl_alloc ?_ _ | refine bl_set ?_ (by first | (simp; done) | (simp; omega) | omega | (simp [World.setCell]; done) | (simp [World.setCell]; omega)) _ | refine bl_call ?_ (by assumption)))).cells rfl
              case d2 => exact zv_one s0
              case d3 => unfold maxLen; omega
              case d4 => omega
              case d5 => simp; omega
              case d6 => simp; omega
              · intro v1 W4 hown1 hgr1 _
                have HB4 := Lib.hid (bl_grown (w := w) (by repeat (first | exact Below.refl _ _ | assumption | refine bl_drewN ?_ _ | refine bl_drew ?_ | refine bl_alloc ?_ _ | refine bl_set ?_ (by first | (simp; done) | (simp; omega) | omega | (simp [World.setCell]; done) | (simp [World.setCell]; omega)) _ | refine bl_call ?_ (by assumption))) hgr1 (fun j hj => by have h9 : some (wr.heap.size + 1) = some j := hj; have := Option.some.inj h9; omega))
                have HO4 := Lib.hid hown1
                have hs4 : w.heap.size ≤ W4.heap.size := HB4.out.size
                clear hown1 hgr1
                go_wp2_with (at_builtin; refine wpList_append_own _ rfl (.tmp 119) (.tmp 121) 25 rfl w.heap.size 30 i0 (.complex .f64 0 0) 1 16 Try.underlying25 hi hz0 hz1 hz2 rfl (by decide) _ _ _ rfl (HO4.out.alloc _) ⟨W4.heap.size, 0, none⟩ 1 1 [zv (xe, xf)] rfl rfl ?d1 ?d2 ?d3 ?d4 ?d5 ?_)
                case d1 =>
                  intro i u hj
                  match i, hj with
                  | 0, hj => simp at hj; subst hj; simp [Addr.add]
                case d2 => intro u hu; simp at hu; subst hu; rfl
                case d3 => unfold maxLen; omega
                case d4 => omega
                case d5 => rw [World.size_alloc]; omega
                · intro v2 W5 hown2 hgr2 _
                  have HN := Lib.hid (sp_next hex hkl HEV.out HOPS.out HRN.out hfin HFC.out HZ.out (bl_grown (bl_alloc HB4.out _) hgr2 (fun j hj => (HO4.out.lt j hj).1)) rfl rfl hown2)
                  clear hown2 hgr2
                  go_wp2
                  case roundEnd => exact HN.out
          · have hq' : (FloatKind.f64.format.order y.1 0 == some .eq && FloatKind.f64.format.order y.2 0 == some .eq) = true := he
            have HF2 := Lib.hid (ex_none0 (w := w) hkl HEV.out HOPS.out HX.out (show (if eqZ y (0, 0) then none else some (quoF z y)) = none by rw [he]; rfl))
            go_wp2_with fail
            go_at_call 25
            refine (takes_is _ 2 _ rfl).mono ?_
            rintro e w3 ⟨rfl, hw⟩
            have hw := hw.symm
            subst hw

            go_wp2
            exact bodyPost_ret (v := .tuple #[zv (0, 0), .bool false]) (by simp (maxDischargeDepth := 6) [results, Try.results12, go_sem]) rfl (HF2.out _ (by repeat (first | exact Below.refl _ _ | assumption | refine bl_drewN ?_ _ | refine bl_drew ?_ | refine bl_alloc ?_ _ | refine bl_set ?_ (by first | (simp; done) | (simp; omega) | omega | (simp [World.setCell]; done) | (simp [World.setCell]; omega)) _ | refine bl_call ?_ (by assumption))))
        · obtain rfl : a = 2 := ha.symm.trans hops'
          obtain ⟨z, y, rfl⟩ : ∃ z y, ops = [z, y] := by
            match ops, hops' with
            | [z, y], _ => exact ⟨z, y, rfl⟩
          have hz := hfin z (by simp)
          have hy := hfin y (by simp)
          have q0 : wr.cell? ⟨gs, s0.length, none⟩ = some (zv z) := hc0 0 (by simp)
          have q1 : wr.cell? ⟨gs, s0.length + 1, none⟩ = some (zv y) := hc0 1 (by simp)
          clear hops' ha hc0
          cases he : eqZ z y
          · have hq' : (FloatKind.f64.format.order z.1 y.1 == some .eq && FloatKind.f64.format.order z.2 y.2 == some .eq) = false := he
            go_wp2_with fail
            go_at_call 25
            refine (takes_is _ 2 _ rfl).mono ?_
            rintro e w3 ⟨rfl, hw⟩
            have hw := hw.symm
            subst hw
            go_wp2_with fail
            go_at_call 28
            refine (truth_any false _).mono ?_
            rintro e w4 ⟨rfl, hw⟩
            subst hw
            have HRES : Hid (Res _ (0, 0)) := Lib.hid (Res.self ⟨by decide, by decide⟩)
            go_wp2_with fail
            go_at_call 29
            cases hfz : finZ (0, 0)
            · have HFZ := Lib.hid hfz
              have HF2 := Lib.hid (ex_none (w := w) hkl HEV.out HOPS.out HX.out (show some (if eqZ z y then cz (4607182418800017408, 0) else cz (0, 0)) = some (cz (0, 0)) by rw [he]; rfl) HRES.out hfz)
              refine (finS_is (0, 0) false hfz _).mono ?_
              rintro e w5 ⟨rfl, n5, hw⟩
              subst hw
              go_wp2
              exact bodyPost_ret (v := .tuple #[zv (0, 0), .bool false]) (by simp (maxDischargeDepth := 6) [results, Try.results12, go_sem]) rfl (HF2.out _ (by repeat (first | exact Below.refl _ _ | assumption | refine bl_drewN ?_ _ | refine bl_drew ?_ | refine bl_alloc ?_ _ | refine bl_set ?_ (by first | (simp; done) | (simp; omega) | omega | (simp [World.setCell]; done) | (simp [World.setCell]; omega)) _ | refine bl_call ?_ (by assumption))))
            · have HFZ := Lib.hid hfz
              have HZ := Lib.hid (fin_ZFin HRES.out.zok hfz)
              have HFC := Lib.hid (ex_val (zs := zs) (ops := [z, y]) HX.out (show some (if eqZ z y then cz (4607182418800017408, 0) else cz (0, 0)) = some (cz (0, 0)) by rw [he]; rfl) HRES.out hfz)
              refine (finS_is (0, 0) true hfz _).mono ?_
              rintro e w5 ⟨rfl, n5, hw⟩
              subst hw
              go_wp2_with (at_builtin; refine wpList_append_own _ rfl (.tmp 115) (.tmp 118) 25 rfl w.heap.size 30 i0 (.complex .f64 0 0) 1 16 Try.underlying25 hi hz0 hz1 hz2 rfl (by decide) _ _ _ rfl (own_empty' _ _ _ ?d0 ?d6) ⟨gs, 0, none⟩ s0.length cs (s0.map zv) rfl (by simp) ?d1 ?d2 ?d3 ?d4 ?d5 ?_)
              case d0 => simp
              case d1 => exact (own_below HO.out (show Below wr.heap.size wr _ from by repeat (first | exact Below.refl _ _ | assumption | refine bl_drewN ?_ _ | refine bl_drew ?_ | refine bl_alloc ?_ _ | refine bl_set ?_ (by first | (simp; done) | (simp; omega) | omega | (simp [World.setCell]; done) | (simp [World.setCell]; omega)) _ | refine bl_call ?_ (by assumption)))).cells rfl
              case d2 => exact zv_one s0
              case d3 => unfold maxLen; omega
              case d4 => omega
              case d5 => simp; omega
              case d6 => simp; omega
              · intro v1 W4 hown1 hgr1 _
                have HB4 := Lib.hid (bl_grown (w := w) (by repeat (first | exact Below.refl _ _ | assumption | refine bl_drewN ?_ _ | refine bl_drew ?_ | refine bl_alloc ?_ _ | refine bl_set ?_ (by first | (simp; done) | (simp; omega) | omega | (simp [World.setCell]; done) | (simp [World.setCell]; omega)) _ | refine bl_call ?_ (by assumption))) hgr1 (fun j hj => by have h9 : some (wr.heap.size + 1) = some j := hj; have := Option.some.inj h9; omega))
                have HO4 := Lib.hid hown1
                have hs4 : w.heap.size ≤ W4.heap.size := HB4.out.size
                clear hown1 hgr1
                go_wp2_with (at_builtin; refine wpList_append_own _ rfl (.tmp 119) (.tmp 121) 25 rfl w.heap.size 30 i0 (.complex .f64 0 0) 1 16 Try.underlying25 hi hz0 hz1 hz2 rfl (by decide) _ _ _ rfl (HO4.out.alloc _) ⟨W4.heap.size, 0, none⟩ 1 1 [zv (0, 0)] rfl rfl ?d1 ?d2 ?d3 ?d4 ?d5 ?_)
                case d1 =>
                  intro i u hj
                  match i, hj with
                  | 0, hj => simp at hj; subst hj; simp [Addr.add]
                case d2 => intro u hu; simp at hu; subst hu; rfl
                case d3 => unfold maxLen; omega
                case d4 => omega
                case d5 => rw [World.size_alloc]; omega
                · intro v2 W5 hown2 hgr2 _
                  have HN := Lib.hid (sp_next hex hkl HEV.out HOPS.out HRN.out hfin HFC.out HZ.out (bl_grown (bl_alloc HB4.out _) hgr2 (fun j hj => (HO4.out.lt j hj).1)) rfl rfl hown2)
                  clear hown2 hgr2
                  go_wp2
                  case roundEnd => exact HN.out
          · have hq' : (FloatKind.f64.format.order z.1 y.1 == some .eq && FloatKind.f64.format.order z.2 y.2 == some .eq) = true := he
            go_wp2_with fail
            go_at_call 25
            refine (takes_is _ 2 _ rfl).mono ?_
            rintro e w3 ⟨rfl, hw⟩
            have hw := hw.symm
            subst hw
            go_wp2_with fail
            go_at_call 28
            refine (truth_any true _).mono ?_
            rintro e w4 ⟨rfl, hw⟩
            subst hw
            have HRES : Hid (Res _ (4607182418800017408, 0)) := Lib.hid (Res.self ⟨by decide, by decide⟩)
            go_wp2_with fail
            go_at_call 29
            cases hfz : finZ (4607182418800017408, 0)
            · have HFZ := Lib.hid hfz
              have HF2 := Lib.hid (ex_none (w := w) hkl HEV.out HOPS.out HX.out (show some (if eqZ z y then cz (4607182418800017408, 0) else cz (0, 0)) = some (cz (4607182418800017408, 0)) by rw [he]; rfl) HRES.out hfz)
              refine (finS_is (4607182418800017408, 0) false hfz _).mono ?_
              rintro e w5 ⟨rfl, n5, hw⟩
              subst hw
              go_wp2
              exact bodyPost_ret (v := .tuple #[zv (0, 0), .bool false]) (by simp (maxDischargeDepth := 6) [results, Try.results12, go_sem]) rfl (HF2.out _ (by repeat (first | exact Below.refl _ _ | assumption | refine bl_drewN ?_ _ | refine bl_drew ?_ | refine bl_alloc ?_ _ | refine bl_set ?_ (by first | (simp; done) | (simp; omega) | omega | (simp [World.setCell]; done) | (simp [World.setCell]; omega)) _ | refine bl_call ?_ (by assumption))))
            · have HFZ := Lib.hid hfz
              have HZ := Lib.hid (fin_ZFin HRES.out.zok hfz)
              have HFC := Lib.hid (ex_val (zs := zs) (ops := [z, y]) HX.out (show some (if eqZ z y then cz (4607182418800017408, 0) else cz (0, 0)) = some (cz (4607182418800017408, 0)) by rw [he]; rfl) HRES.out hfz)
              refine (finS_is (4607182418800017408, 0) true hfz _).mono ?_
              rintro e w5 ⟨rfl, n5, hw⟩
              subst hw
              go_wp2_with (at_builtin; refine wpList_append_own _ rfl (.tmp 115) (.tmp 118) 25 rfl w.heap.size 30 i0 (.complex .f64 0 0) 1 16 Try.underlying25 hi hz0 hz1 hz2 rfl (by decide) _ _ _ rfl (own_empty' _ _ _ ?d0 ?d6) ⟨gs, 0, none⟩ s0.length cs (s0.map zv) rfl (by simp) ?d1 ?d2 ?d3 ?d4 ?d5 ?_)
              case d0 => simp
              case d1 => exact (own_below HO.out (show Below wr.heap.size wr _ from by repeat (first | exact Below.refl _ _ | assumption | refine bl_drewN ?_ _ | refine bl_drew ?_ | refine bl_alloc ?_ _ | refine bl_set ?_ (by first | (simp; done) | (simp; omega) | omega | (simp [World.setCell]; done) | (simp [World.setCell]; omega)) _ | refine bl_call ?_ (by assumption)))).cells rfl
              case d2 => exact zv_one s0
              case d3 => unfold maxLen; omega
              case d4 => omega
              case d5 => simp; omega
              case d6 => simp; omega
              · intro v1 W4 hown1 hgr1 _
                have HB4 := Lib.hid (bl_grown (w := w) (by repeat (first | exact Below.refl _ _ | assumption | refine bl_drewN ?_ _ | refine bl_drew ?_ | refine bl_alloc ?_ _ | refine bl_set ?_ (by first | (simp; done) | (simp; omega) | omega | (simp [World.setCell]; done) | (simp [World.setCell]; omega)) _ | refine bl_call ?_ (by assumption))) hgr1 (fun j hj => by have h9 : some (wr.heap.size + 1) = some j := hj; have := Option.some.inj h9; omega))
                have HO4 := Lib.hid hown1
                have hs4 : w.heap.size ≤ W4.heap.size := HB4.out.size
                clear hown1 hgr1
                go_wp2_with (at_builtin; refine wpList_append_own _ rfl (.tmp 119) (.tmp 121) 25 rfl w.heap.size 30 i0 (.complex .f64 0 0) 1 16 Try.underlying25 hi hz0 hz1 hz2 rfl (by decide) _ _ _ rfl (HO4.out.alloc _) ⟨W4.heap.size, 0, none⟩ 1 1 [zv (4607182418800017408, 0)] rfl rfl ?d1 ?d2 ?d3 ?d4 ?d5 ?_)
                case d1 =>
                  intro i u hj
                  match i, hj with
                  | 0, hj => simp at hj; subst hj; simp [Addr.add]
                case d2 => intro u hu; simp at hu; subst hu; rfl
                case d3 => unfold maxLen; omega
                case d4 => omega
                case d5 => rw [World.size_alloc]; omega
                · intro v2 W5 hown2 hgr2 _
                  have HN := Lib.hid (sp_next hex hkl HEV.out HOPS.out HRN.out hfin HFC.out HZ.out (bl_grown (bl_alloc HB4.out _) hgr2 (fun j hj => (HO4.out.lt j hj).1)) rfl rfl hown2)
                  clear hown2 hgr2
                  go_wp2
                  case roundEnd => exact HN.out
    · have ck : decide ((k : Int) < (l.length : Int)) = false := decide_eq_false (by omega)
      obtain rfl : k = l.length := by omega
      have h1 := hrun_end hex hkl hrn
      rw [List.take_length] at hev
      obtain ⟨z, rfl⟩ := List.length_eq_one_iff.1 h1
      have hzf := hfin z (by simp)
      have hcc : wr.cell? ⟨gs, 0, none⟩ = some (zv z) := hown.cellAt 0 (by simp)
      have HE := ex_done hev hzf HB.out
      go_wp2
      exact bodyPost_ret (v := .tuple #[zv z, .bool true]) (by simp (maxDischargeDepth := 6) [results, Try.results12, go_sem]) rfl HE
end Go.Proofs.Ytjacimccpadgeaa
