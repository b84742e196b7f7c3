/- What the program's EvalExpr gives at a drawn expression: the value of evaluating its nodes one after the other, if there is one. -/
import Derived.Test.YtjacimccpadgeaaEvA
import Derived.Lib.SmallJoins
namespace Go.Proofs.Ytjacimccpadgeaa
open Go.RowKit
attribute [local go_sem] run_store_float run_store_complex
set_option maxRecDepth 100000
set_option maxHeartbeats 4000000
set_option linter.unusedVariables false
set_option linter.unusedSimpArgs false

/-- What EvalExpr ends with. -/
def ExOut (r : Option (List (Nat × Nat))) (z : Nat × Nat) (ok : Bool) : Prop := match r with
  | none => ok = false
  | some st => ok = true ∧ st = [z] ∧ ZFin z
def ExEnd (r : Option (List (Nat × Nat))) (w : World) (e : Ending) (w' : World) : Prop := ∃ z ok, e = .returned (.tuple #[zv z, .bool ok]) ∧ ExOut r z ok ∧ Below w.heap.size w w'
/-- The loop's relation. -/
def StRel (l : List Nd) (zs : List (Nat × Nat)) (w : World) (v i : Value) (wr : World) : Prop :=
  ∃ (k : Nat) (st : List (Nat × Nat)), i = .int .i64 k ∧ k ≤ l.length ∧ evs zs (l.take k) [] = some st ∧ (∀ z ∈ st, ZFin z) ∧ hrun 0 (l.take k) = some st.length ∧ wr.ownsRow w.heap.size 30 1 v st.length (st.map zv) ∧ (st = [] → v = .slice none 0 0) ∧ Below w.heap.size w wr
theorem exprOkI_any (l : List Nd) (v : Value) (w : World) (hv : NView w v l) (hl : 1 ≤ l.length ∧ l.length ≤ 60) (hg : ∀ x ∈ l, GoodN x) (hex : IsEx l) :
    Calls Try.prog 11 #[v] w fun e w' => e = .returned (.bool true) ∧ Below w.heap.size w w' := by
  go_enter Try.func11, Try.ntmps11
  go_wp2_with (go_at_call 24; (with_reducible refine (heights_any l v _ hv hl hg hex).mono ?_); rintro e w1 ⟨v1, hs, rfl, _, _, _, hb1⟩)
  go_ret
  exact ⟨rfl, hb1⟩
/-- The first part of a row of its own. -/
theorem own_take {w : World} {base g n k cap : Nat} {e : TypeId} {xs : List Value} (h : w.ownsRow base e 1 (.slice (some ⟨g, 0, none⟩) n cap) n xs) (hk : k ≤ n) : w.ownsRow base e 1 (.slice (some ⟨g, 0, none⟩) k cap) k (xs.take k) := by
  have h0 := h.1
  refine ⟨by rw [List.length_take, h0]; omega, ?_⟩
  rcases h.2 with ⟨h1, _⟩ | ⟨g', cap', cur, h1, h2, h3, h4, h5, h6, h7⟩
  · simp at h1
  · have hg : g = g' := by simpa using (Value.slice.inj h1).1
    have hc : cap = cap' := by simpa using (Value.slice.inj h1).2.2
    subst hg hc
    refine .inr ⟨g, cap, cur, rfl, h2, h3, by omega, h5, h6, ?_⟩
    rw [← h7, List.take_take]
    congr 1
    omega
theorem own_cap {w : World} {base g n cap : Nat} {e : TypeId} {xs : List Value} (h : w.ownsRow base e 1 (.slice (some ⟨g, 0, none⟩) n cap) n xs) : n ≤ cap := by
  rcases h.2 with ⟨h1, _⟩ | ⟨g', cap', cur, h1, h2, h3, h4, h5, h6, h7⟩
  · simp at h1
  · have hc : cap = cap' := by simpa using (Value.slice.inj h1).2.2
    subst hc
    exact h4
theorem ev_step {l : List Nd} {zs st : List (Nat × Nat)} {k : Nat} (hk : k < l.length) (h : evs zs (l.take k) [] = some st) : evs zs l [] = (stp l[k] st zs).bind fun st' => evs zs (l.drop (k + 1)) st' := by
  have e : l = l.take k ++ (l[k] :: l.drop (k + 1)) := by
    rw [← List.drop_eq_getElem_cons hk, List.take_append_drop]
  have h2 := evs_append zs (l.take k) (l[k] :: l.drop (k + 1)) []
  rw [← e, h] at h2
  exact h2
theorem ev_stop {l : List Nd} {zs st : List (Nat × Nat)} {k : Nat} (hk : k < l.length) (h : evs zs (l.take k) [] = some st) (hs : stp l[k] st zs = none) : evs zs l [] = none := by
  rw [ev_step hk h, hs]; rfl
theorem ev_next {l : List Nd} {zs st st' : List (Nat × Nat)} {k : Nat} (hk : k < l.length) (h : evs zs (l.take k) [] = some st) (hs : stp l[k] st zs = some st') : evs zs (l.take (k + 1)) [] = some st' := by
  rw [List.take_succ_eq_append_getElem hk, evs_append, h]
  show (stp l[k] st zs).bind _ = _
  rw [hs]; rfl
/-- One node: parted. -/
theorem stp_part {x : Nd} {s0 ops zs : List (Nat × Nat)} (h : ops.length = ar x.kind) : stp x (s0 ++ ops) zs = ((evF x ops zs).bind finC).map fun z => s0 ++ [z] := by
  unfold stp
  have e : (s0 ++ ops).length - ar x.kind = s0.length := by rw [List.length_append]; omega
  rw [e, List.take_left', List.drop_left'] <;> rfl
theorem st_next {l : List Nd} {zs s0 ops : List (Nat × Nat)} {w W W' : World} {k g' cap : Nat} {z : Nat × Nat} {out : Value} {o : Obj} {n : Nat} {xs : List Value} (hex : IsEx l) (hk : k < l.length) (h : evs zs (l.take k) [] = some (s0 ++ ops)) (hops : ops.length = ar l[k].kind) (hrn : hrun 0 (l.take k) = some (s0 ++ ops).length)
    (hfin : ∀ y ∈ s0 ++ ops, ZFin y) (hz : (evF l[k] ops zs).bind finC = some z) (hzf : ZFin z) (hb : Below w.heap.size w W)
    (hn : n = s0.length + 1) (hx : xs = s0.map zv ++ [zv z]) (hob : ∀ j, out.ownBlock = some j → w.heap.size ≤ j)
    (hown' : W'.ownsRow w.heap.size 30 1 (.slice (some ⟨g', 0, none⟩) n cap) n xs) (hgrow : (W.alloc o).grownBy W' out.ownBlock) :
    StRel l zs w (.slice (some ⟨g', 0, none⟩) n cap) (.int .i64 ((k : Int) + 1)) W' ∧ l.length - (RowKit.intOf (.int .i64 ((k : Int) + 1))).toNat < l.length - (RowKit.intOf (.int .i64 (k : Int))).toNat := by
  subst hn hx
  obtain ⟨s1, s2, s3, s4, s5⟩ := hrun_step hex hk hrn
  refine ⟨⟨k + 1, s0 ++ [z], by simp, hk, ev_next hk h (by rw [stp_part hops, hz]; rfl), fun y hy => ?_, ?_, ?_, fun h => by simp at h, (hb.alloc hb.size o).grown hgrow (Nat.le_trans hb.size (by rw [World.size_alloc]; omega)) hob⟩, by simp [RowKit.intOf]; omega⟩
  · rcases List.mem_append.1 hy with hy | hy
    · exact hfin y (List.mem_append_left _ hy)
    · simp at hy; subst hy; exact hzf
  · rw [s2]
    congr 1
    simp only [List.length_append, List.length_singleton] at *
    omega
  · simpa using hown'
theorem ex_stop {l : List Nd} {zs s0 ops : List (Nat × Nat)} {w W : World} {k : Nat} (hk : k < l.length) (h : evs zs (l.take k) [] = some (s0 ++ ops)) (hops : ops.length = ar l[k].kind) (hz : (evF l[k] ops zs).bind finC = none) (hb : Below w.heap.size w W) :
    ExEnd (evs zs l []) w (.returned (.tuple #[zv (0, 0), .bool false])) W := by
  rw [ev_stop hk h (by rw [stp_part hops, hz]; rfl)]
  exact ⟨(0, 0), false, rfl, rfl, hb⟩
theorem ex_done {l : List Nd} {zs : List (Nat × Nat)} {z : Nat × Nat} {w W : World} (h : evs zs l [] = some [z]) (hf : ZFin z) (hb : Below w.heap.size w W) : ExEnd (evs zs l []) w (.returned (.tuple #[zv z, .bool true])) W := by
  rw [h]
  exact ⟨z, true, rfl, ⟨rfl, rfl, hf⟩, hb⟩

theorem oview_drew {w : World} {v : Value} {zs : List (Nat × Nat)} (h : OView w v zs) : OView w.drew v zs := h
theorem sview_drew {w : World} {v : Value} {zs : List (Nat × Nat)} (h : SView w v zs) : SView w.drew v zs := h
theorem bl_ev {w wr w4 : World} {o : Obj} (hb : Below w.heap.size w wr) (h4 : Below (wr.alloc o).drew.heap.size (wr.alloc o).drew w4) : Below w.heap.size w w4 :=
  bl_call (bl_drew (bl_alloc hb o)) h4
theorem finI_is (z : Nat × Nat) (b : Bool) (hb : finZ z = b) (h : ZOk z) (w : World) : Calls Try.prog 23 #[zv z] w fun e w' => e = .returned (.bool b) ∧ w' = w := hb ▸ finiteI_any z h w
theorem Res.zok {r : C2} {z : Nat × Nat} (h : Res r z) : ZOk z := h.2.2
theorem evalI_any (l : List Nd) (zs : List (Nat × Nat)) (v u : Value) (w : World) (hv : NView w v l) (hu : SView w u zs) (hl : 1 ≤ l.length ∧ l.length ≤ 60) (hg : ∀ x ∈ l, GoodN x) (hex : IsEx l) (hzs : ∀ z ∈ zs, ZOk z) (hzl : zs.length ≤ 5) :
    Calls Try.prog 10 #[v, u] w (ExEnd (evs zs l []) w) := by
  have HU := Lib.hid hu
  have hu' := hu
  obtain ⟨bu, cu, rfl, _, _⟩ := hu'
  clear hu
  have hv' := hv
  have hv2 := hv
  obtain ⟨g, cap, rfl, hgw, hcells⟩ := hv'
  have HC := Lib.hid hcells
  clear hcells hv
  obtain ⟨i0, hi, hz0, hz1, hz2⟩ := info_parts A_infoC
  go_enter Try.func10, Try.ntmps10
  go_wp2_with fail
  go_at_call 11
  refine (exprOkI_any l _ _ hv2 hl hg hex).mono ?_
  rintro e w1 ⟨rfl, hb1⟩
  have HB1 := Lib.hid hb1
  clear hb1 hv2
  go_wp2
  go_loopw [6, 17] (fun v i wr => StRel l zs w v i wr) (fun _ i _ => l.length - (RowKit.intOf i).toNat)
  case atStart => exact ⟨0, [], rfl, Nat.zero_le _, rfl, by simp, rfl, World.ownsRow_nil _ _ _ _, fun _ => rfl, HB1.out⟩
  case round =>
    obtain ⟨k, st, rfl, hk, hev, hfin, hrn, hown, hne, hb⟩ := hrel
    have HB := Lib.hid hb
    by_cases hkl : k < l.length
    · have ck : decide ((k : Int) < (l.length : Int)) = true := decide_eq_true (by omega)
      obtain ⟨s1, s2, s3, s4, s5⟩ := hrun_step hex hkl hrn
      have hcw : NCells wr g l := HC.out.below HB.out hgw
      obtain ⟨x0, x1, x2⟩ := hcw k hkl
      clear hcw
      obtain ⟨s0, ops, rfl, hops⟩ : ∃ s0 ops, st = s0 ++ ops ∧ ops.length = ar l[k].kind := ⟨st.take (st.length - ar l[k].kind), st.drop (st.length - ar l[k].kind), (List.take_append_drop _ _).symm, by rw [List.length_drop]; omega⟩
      have hsl : (s0 ++ ops).length = s0.length + ops.length := List.length_append
      have hsz := HB.out.size
      obtain ⟨a, ha⟩ : ∃ a, ar l[k].kind = a := ⟨_, rfl⟩
      have HA := Lib.hid ha
      rw [ha] at hops
      have HOPS := Lib.hid hops
      have BX := Blk.new wr 36 #[.int .i64 l[k].kind, .int .i64 l[k].slot, .complex .f64 l[k].re l[k].im]
      have b0 := BX.cell 0
      have b1 := BX.cell 1
      have b2 := BX.cell 2
      have hsv := (HU.out.below HB.out).below (bl_alloc (Below.refl _ _) (.cells #[.int .i64 l[k].kind, .int .i64 l[k].slot, .complex .f64 l[k].re l[k].im] 36))
      have HSV := Lib.hid hsv
      clear hsv
      rcases Joins.ownsRow_forms hown with ⟨hnil, hn0⟩ | ⟨gs, cs, hvs⟩
      · subst hnil
        rw [hsl] at hn0
        obtain rfl : s0 = [] := List.length_eq_zero_iff.1 (by omega)
        obtain rfl : ops = [] := List.length_eq_zero_iff.1 (by omega)
        obtain rfl : a = 0 := by simpa using hops.symm
        have hvw : OView (wr.alloc (.cells #[.int .i64 l[k].kind, .int .i64 l[k].slot, .complex .f64 l[k].re l[k].im] 36)) (.slice none 0 0) [] := ⟨none, 0, rfl, fun j hj => absurd hj (by simp)⟩
        have HV := Lib.hid hvw
        have HO : Hid (wr.ownsRow w.heap.size 30 1 (.slice none 0 0) 0 []) := Lib.hid (World.ownsRow_nil _ _ _ _)
        clear hvw hown
        go_wp2_with (go_at_call 21; (with_reducible refine (operands_is _ _ _ HA.out).mono ?_); rintro e w3 ⟨rfl, hw⟩; have hw := hw.symm; subst hw)
        go_region_with (first | (go_at_call 22; (with_reducible refine (evI_any l[k] (hg _ (List.getElem_mem hkl)) [] zs (by simp [HA.out]) (by simp) hzs hzl _ _ _ (oview_drew HV.out) (sview_drew HSV.out)).mono ?_); rintro e w4 ⟨z, ok, rfl, hout, hb4⟩))
        all_goals
          have HB4 := Lib.hid (bl_ev HB.out hb4)
          have HO4 := Lib.hid (own_below HO.out (bl_ev (Below.refl _ _) hb4))
          have hs4 : w.heap.size ≤ w4.heap.size := HB4.out.size
          clear hb4
          cases hev2 : evF l[k] [] zs with
          | none =>
            rw [hev2] at hout
            obtain rfl : ok = false := hout
            have HE := ex_stop hkl (s0 := []) (ops := []) hev (by simp [HA.out]) (by rw [hev2]; rfl) HB4.out
            go_wp2
            exact bodyPost_ret (v := .tuple #[zv (0, 0), .bool false]) (by simp (maxDischargeDepth := 6) [results, Try.results10, go_sem]) rfl HE
          | some r =>
            rw [hev2] at hout
            obtain ⟨rfl, hres⟩ := hout
            have hfc := finC_of hres
            cases hfz : finZ z
            · rw [hfz] at hfc
              have HE := ex_stop hkl (s0 := []) (ops := []) hev (by simp [HA.out]) (by rw [hev2]; exact hfc) HB4.out
              go_wp2_with (go_at_call 23; (with_reducible refine (finI_is z false hfz hres.zok _).mono ?_); rintro e w5 ⟨rfl, hw⟩; have hw := hw.symm; subst hw)
              exact bodyPost_ret (v := .tuple #[zv (0, 0), .bool false]) (by simp (maxDischargeDepth := 6) [results, Try.results10, go_sem]) rfl HE
            · rw [hfz] at hfc
              have HZ := Lib.hid (fin_ZFin hres.zok hfz)
              have HFC := Lib.hid (show (evF l[k] [] zs).bind finC = some z by rw [hev2]; exact hfc)
              go_wp2_with (first | (go_at_call 23; (with_reducible refine (finI_is z true hfz hres.zok _).mono ?_); rintro e w5 ⟨rfl, hw⟩; have hw := hw.symm; subst hw) | (at_builtin; refine wpList_append_lies _ rfl _ _ 25 rfl w.heap.size 30 i0 (.complex .f64 0 0) 1 16 Try.underlying25 hi hz0 hz1 hz2 rfl (by decide) _ _ _ rfl (HO4.out.alloc _) ⟨w4.heap.size, 0, none⟩ 1 1 [zv z] rfl rfl ?c1 ?c2 (by decide) ?c3 ?c4 ?c5 _ rfl ?_))
              case c1 =>
                intro i u hj
                match i, hj with
                | 0, hj => simp at hj; subst hj; simp [Addr.add]
              case c2 => intro u hu; simp at hu; subst hu; rfl
              case c3 => unfold maxLen; omega
              case c4 => omega
              case c5 => rw [World.size_alloc]; omega
              · intro g' cap' w6 hown' hgrow _ _
                have HN := Lib.hid (st_next hex hkl (s0 := []) (ops := []) hev (by simp [HA.out]) hrn hfin HFC.out HZ.out HB4.out rfl rfl (fun j hj => (HO4.out.lt j hj).1) hown' hgrow)
                clear hown' hgrow
                go_wp2
                case roundEnd => exact HN.out
      · obtain rfl := hvs
        have hpos : 0 < (s0 ++ ops).length := List.length_pos_iff.2 fun h => by have := hne h; simp at this
        rw [hsl, hops] at hown hpos
        have hcs : s0.length + a ≤ cs := own_cap hown
        have hk1 : s0.length ≤ s0.length + a := Nat.le_add_right _ _
        have hc0 : ¬ cs = 0 := by omega
        have hgs : gs < wr.heap.size := (hown.lt gs rfl).2
        have HO := Lib.hid (own_take hown hk1)
        rw [List.map_append, List.take_left' (by simp)] at HO
        by_cases hcl : cs = s0.length
        · subst hcl
          obtain rfl : a = 0 := by omega
          obtain rfl : ops = [] := List.length_eq_zero_iff.1 (by omega)
          have hvw : OView (wr.alloc (.cells #[.int .i64 l[k].kind, .int .i64 l[k].slot, .complex .f64 l[k].re l[k].im] 36)) (.slice (some ⟨gs, 0, none⟩) 0 0) [] := ⟨_, 0, rfl, fun j hj => absurd hj (by simp)⟩
          have HV := Lib.hid hvw
          clear hvw hown
          go_wp2_with (go_at_call 21; (with_reducible refine (operands_is _ _ _ HA.out).mono ?_); rintro e w3 ⟨rfl, hw⟩; have hw := hw.symm; subst hw)
          go_region_with (first | (go_at_call 22; (with_reducible refine (evI_any l[k] (hg _ (List.getElem_mem hkl)) [] zs (by simp [HA.out]) (by simp) hzs hzl _ _ _ (oview_drew HV.out) (sview_drew HSV.out)).mono ?_); rintro e w4 ⟨z, ok, rfl, hout, hb4⟩))
          all_goals
            have HB4 := Lib.hid (bl_ev HB.out hb4)
            have HO4 := Lib.hid (own_below HO.out (bl_ev (Below.refl _ _) hb4))
            have hs4 : w.heap.size ≤ w4.heap.size := HB4.out.size
            clear hb4
            cases hev2 : evF l[k] [] zs with
            | none =>
              rw [hev2] at hout
              obtain rfl : ok = false := hout
              have HE := ex_stop hkl (ops := []) hev (by simp [HA.out]) (by rw [hev2]; rfl) HB4.out
              go_wp2
              exact bodyPost_ret (v := .tuple #[zv (0, 0), .bool false]) (by simp (maxDischargeDepth := 6) [results, Try.results10, go_sem]) rfl HE
            | some r =>
              rw [hev2] at hout
              obtain ⟨rfl, hres⟩ := hout
              have hfc := finC_of hres
              cases hfz : finZ z
              · rw [hfz] at hfc
                have HE := ex_stop hkl (ops := []) hev (by simp [HA.out]) (by rw [hev2]; exact hfc) HB4.out
                go_wp2_with (go_at_call 23; (with_reducible refine (finI_is z false hfz hres.zok _).mono ?_); rintro e w5 ⟨rfl, hw⟩; have hw := hw.symm; subst hw)
                exact bodyPost_ret (v := .tuple #[zv (0, 0), .bool false]) (by simp (maxDischargeDepth := 6) [results, Try.results10, go_sem]) rfl HE
              · rw [hfz] at hfc
                have HZ := Lib.hid (fin_ZFin hres.zok hfz)
                have HFC := Lib.hid (show (evF l[k] [] zs).bind finC = some z by rw [hev2]; exact hfc)
                go_wp2_with (first | (go_at_call 23; (with_reducible refine (finI_is z true hfz hres.zok _).mono ?_); rintro e w5 ⟨rfl, hw⟩; have hw := hw.symm; subst hw) | (at_builtin; refine wpList_append_lies _ rfl _ _ 25 rfl w.heap.size 30 i0 (.complex .f64 0 0) 1 16 Try.underlying25 hi hz0 hz1 hz2 rfl (by decide) _ _ _ rfl (HO4.out.alloc _) ⟨w4.heap.size, 0, none⟩ 1 1 [zv z] rfl rfl ?c1 ?c2 (by decide) ?c3 ?c4 ?c5 _ rfl ?_))
                case c1 =>
                  intro i u hj
                  match i, hj with
                  | 0, hj => simp at hj; subst hj; simp [Addr.add]
                case c2 => intro u hu; simp at hu; subst hu; rfl
                case c3 => unfold maxLen; omega
                case c4 => omega
                case c5 => rw [World.size_alloc]; omega
                · intro g' cap' w6 hown' hgrow _ _
                  have HN := Lib.hid (st_next hex hkl (ops := []) hev (by simp [HA.out]) hrn hfin HFC.out HZ.out HB4.out rfl rfl (fun j hj => (HO4.out.lt j hj).1) hown' hgrow)
                  clear hown' hgrow
                  go_wp2
                  case roundEnd => exact HN.out
        · have hvw : OView (wr.alloc (.cells #[.int .i64 l[k].kind, .int .i64 l[k].slot, .complex .f64 l[k].re l[k].im] 36)) (.slice (some ⟨gs, s0.length, none⟩) a (cs - s0.length)) ops := by
            refine ⟨some ⟨gs, s0.length, none⟩, cs - s0.length, by rw [hops], fun j hj => ⟨gs, s0.length, rfl, by rw [World.size_alloc]; omega, ?_⟩⟩
            have hcc := hown.cellAt (s0.length + j) (by omega)
            rw [World.cell?_of_block (w := wr) (Below.heap_alloc wr _ gs hgs), hcc]
            simp [List.getElem?_append_right, hj]
          have HV := Lib.hid hvw
          clear hvw hown
          go_wp2_with (go_at_call 21; (with_reducible refine (operands_is _ _ _ HA.out).mono ?_); rintro e w3 ⟨rfl, hw⟩; have hw := hw.symm; subst hw)
          go_region_with (first | (go_at_call 22; (with_reducible refine (evI_any l[k] (hg _ (List.getElem_mem hkl)) ops zs (by rw [HA.out]; exact HOPS.out) (fun y hy => hfin y (List.mem_append_right _ hy)) hzs hzl _ _ _ (oview_drew HV.out) (sview_drew HSV.out)).mono ?_); rintro e w4 ⟨z, ok, rfl, hout, hb4⟩))
          all_goals
            have HB4 := Lib.hid (bl_ev HB.out hb4)
            have HO4 := Lib.hid (own_below HO.out (bl_ev (Below.refl _ _) hb4))
            have hs4 : w.heap.size ≤ w4.heap.size := HB4.out.size
            clear hb4
            cases hev2 : evF l[k] ops zs with
            | none =>
              rw [hev2] at hout
              obtain rfl : ok = false := hout
              have HE := ex_stop hkl hev (by rw [HOPS.out, HA.out]) (by rw [hev2]; rfl) HB4.out
              go_wp2
              exact bodyPost_ret (v := .tuple #[zv (0, 0), .bool false]) (by simp (maxDischargeDepth := 6) [results, Try.results10, go_sem]) rfl HE
            | some r =>
              rw [hev2] at hout
              obtain ⟨rfl, hres⟩ := hout
              have hfc := finC_of hres
              cases hfz : finZ z
              · rw [hfz] at hfc
                have HE := ex_stop hkl hev (by rw [HOPS.out, HA.out]) (by rw [hev2]; exact hfc) HB4.out
                go_wp2_with (go_at_call 23; (with_reducible refine (finI_is z false hfz hres.zok _).mono ?_); rintro e w5 ⟨rfl, hw⟩; have hw := hw.symm; subst hw)
                exact bodyPost_ret (v := .tuple #[zv (0, 0), .bool false]) (by simp (maxDischargeDepth := 6) [results, Try.results10, go_sem]) rfl HE
              · rw [hfz] at hfc
                have HZ := Lib.hid (fin_ZFin hres.zok hfz)
                have HFC := Lib.hid (show (evF l[k] ops zs).bind finC = some z by rw [hev2]; exact hfc)
                go_wp2_with (first | (go_at_call 23; (with_reducible refine (finI_is z true hfz hres.zok _).mono ?_); rintro e w5 ⟨rfl, hw⟩; have hw := hw.symm; subst hw) | (at_builtin; refine wpList_append_lies _ rfl _ _ 25 rfl w.heap.size 30 i0 (.complex .f64 0 0) 1 16 Try.underlying25 hi hz0 hz1 hz2 rfl (by decide) _ _ _ rfl (HO4.out.alloc _) ⟨w4.heap.size, 0, none⟩ 1 1 [zv z] rfl rfl ?c1 ?c2 (by decide) ?c3 ?c4 ?c5 _ rfl ?_))
                case c1 =>
                  intro i u hj
                  match i, hj with
                  | 0, hj => simp at hj; subst hj; simp [Addr.add]
                case c2 => intro u hu; simp at hu; subst hu; rfl
                case c3 => unfold maxLen; omega
                case c4 => omega
                case c5 => rw [World.size_alloc]; omega
                · intro g' cap' w6 hown' hgrow _ _
                  have HN := Lib.hid (st_next hex hkl hev (by rw [HOPS.out, HA.out]) hrn hfin HFC.out HZ.out HB4.out rfl rfl (fun j hj => (HO4.out.lt j hj).1) hown' hgrow)
                  clear hown' hgrow
                  go_wp2
                  case roundEnd => exact HN.out
    · have ck : decide ((k : Int) < (l.length : Int)) = false := decide_eq_false (by omega)
      obtain rfl : k = l.length := by omega
      have h1 := hrun_end hex hkl hrn
      rw [List.take_length] at hev
      obtain ⟨z, rfl⟩ := List.length_eq_one_iff.1 h1
      have hzf := hfin z (by simp)
      rcases Joins.ownsRow_forms hown with ⟨hnil, hn0⟩ | ⟨gs, cs, hvs⟩
      · simp at hn0
      · obtain rfl := hvs
        have hcc : wr.cell? ⟨gs, 0, none⟩ = some (zv z) := hown.cellAt 0 (by simp)
        have HE := ex_done hev hzf HB.out
        go_wp2
        exact bodyPost_ret (v := .tuple #[zv z, .bool true]) (by simp (maxDischargeDepth := 6) [results, Try.results10, go_sem]) rfl HE
end Go.Proofs.Ytjacimccpadgeaa
