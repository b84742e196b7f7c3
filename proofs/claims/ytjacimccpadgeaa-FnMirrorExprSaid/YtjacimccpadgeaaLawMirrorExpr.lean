/- For every input laws.FnMirrorExpr returns true: the mirrored expression over the conjugates of the slots has the conjugate for its value, and has one exactly if the expression has. No condition. -/
import Derived.Test.YtjacimccpadgeaaMirW
import Derived.Deep.RegionHeld3
import Derived.ProofKit
import Derived.OpenShut
import Derived.ShutString
import Derived.ChangeOld
import Derived.Lib.SmallJoins
namespace Go.Proofs.Ytjacimccpadgeaa.fnMirrorExpr
open Go.ChangeShapes Go.WideShapes Go.ChangeAt Go.RowKit Go.Joins
open Go.ChangeMaps (open_string shut_string)
attribute [local go_sem] run_store_float run_store_complex run_neg_float run_neg_complex
set_option maxRecDepth 100000
set_option maxHeartbeats 8000000
set_option linter.unusedVariables false
set_option linter.unusedSimpArgs false

theorem own : ownKnob Try.prog.godebug = none := by kernel_rfl
theorem laidOut : laidOutB Try.prog = true := by kernel_rfl

/-- The loop's relation: the conjugates of the slots so far. -/
def KtRel (zs : List (Nat × Nat)) (w : World) (out i : Value) (wr : World) : Prop :=
  ∃ k : Nat, i = .int .i64 k ∧ k ≤ zs.length ∧ wr.ownsRow w.heap.size 30 1 out k (((zs.take k).map kz).map zv) ∧ (∃ g c, out = .slice (some ⟨g, 0, none⟩) k c) ∧ Below w.heap.size w wr
theorem kt_next {zs : List (Nat × Nat)} {w W W' : World} {k g' cap n : Nat} {out : Value} {xs : List Value} {o : Obj} (hk : k < zs.length) (hown : W.ownsRow w.heap.size 30 1 out k (((zs.take k).map kz).map zv)) (hb : Below w.heap.size w W)
    (hn : n = k + 1) (hx : xs = ((zs.take k).map kz).map zv ++ [zv (kz zs[k])]) (hown' : W'.ownsRow w.heap.size 30 1 (.slice (some ⟨g', 0, none⟩) n cap) n xs) (hgrow : (W.drew.alloc o).grownBy W' out.ownBlock) :
    KtRel zs w (.slice (some ⟨g', 0, none⟩) n cap) (.int .i64 ((k : Int) + 1)) W' ∧ zs.length - (RowKit.intOf (.int .i64 ((k : Int) + 1))).toNat < zs.length - (RowKit.intOf (.int .i64 (k : Int))).toNat := by
  subst hn hx
  refine ⟨⟨k + 1, by simp, hk, ?_, ⟨g', cap, rfl⟩, (bl_alloc hb.drew o).grown hgrow (Nat.le_trans hb.size (by rw [World.size_alloc]; show W.heap.size ≤ W.heap.size + 1; omega)) (fun j hj => by have := (hown.lt j hj).1; omega)⟩, by simp [RowKit.intOf]; omega⟩
  rw [List.take_succ_eq_append_getElem hk, List.map_append, List.map_append]
  exact hown'
theorem kt_row {zs : List (Nat × Nat)} {w wr : World} {g c n : Nat} (hn : n = zs.length) (hown : wr.ownsRow w.heap.size 30 1 (.slice (some ⟨g, 0, none⟩) n c) n ((zs.map kz).map zv)) : SView wr (.slice (some ⟨g, 0, none⟩) n c) (zs.map kz) := by
  subst hn
  have e : (zs.map kz).length = zs.length := List.length_map _
  rw [← e] at hown ⊢
  exact ZRow.view ⟨c, rfl, own_at hown⟩
theorem kz_ok {zs : List (Nat × Nat)} (h : ∀ z ∈ zs, ZOk z) : ∀ z ∈ zs.map kz, ZOk z := by
  intro z hm
  obtain ⟨y, hy, rfl⟩ := List.mem_map.1 hm
  exact (h y hy).conj
theorem zn_news (w : World) (z : Nat × Nat) : ∀ (j : Nat) (u : Value), [zv z][j]? = some u → (w.alloc (.cells #[.complex .f64 z.1 z.2] 30)).cell? ((⟨w.heap.size, 0, none⟩ : Addr).add j) = some u := by
  intro i u hj
  match i, hj with
  | 0, hj => simp at hj; subst hj; simp [Addr.add]
theorem zn_one (z : Nat × Nat) : ∀ u ∈ [zv z], u.oneCell' = true := by intro u hu; simp at hu; subst hu; rfl

theorem walk_big (A : Option Addr) (len cap : Nat) (w : World) (h : 1048576 < len) :
    Calls Try.prog 3 #[.slice A len cap] w fun en w' => en = .returned (.bool true) ∧ Below w.heap.size w w' := by
  have hd : decide ((1048576 : Int) < (len : Int)) = true := decide_eq_true (by omega)
  have hcl : ∀ W, Calls Try.prog 6 #[.slice A len cap] W fun en w' => en = .returned (.bool true) ∧ w' = W := fun W => hd ▸ big_any A len cap W
  go_enter Try.func3, Try.ntmps3
  go_wp2_with (go_at_call 6; (with_reducible refine (hcl _).mono ?_); rintro en w1 ⟨rfl, hw⟩; have hw := hw.symm; subst hw)
  go_ret
  exact ⟨rfl, Below.refl _ _⟩
theorem walk_small (A : Option Addr) (len cap : Nat) (w : World) (h : len ≤ 1048576) (hlen : len ≤ maxLen) (hrow : RowOk w.heap.size w A len) :
    Calls Try.prog 3 #[.slice A len cap] w fun en w' => en = .returned (.bool true) ∧ Below w.heap.size w w' := by
  have hd : decide ((1048576 : Int) < (len : Int)) = false := decide_eq_false (by omega)
  have hcl : ∀ W, Calls Try.prog 6 #[.slice A len cap] W fun en w' => en = .returned (.bool false) ∧ w' = W := fun W => hd ▸ big_any A len cap W
  obtain ⟨i0, hi, hz0, hz1, hz2⟩ := info_parts A_infoC
  go_enter Try.func3, Try.ntmps3
  go_wp2_with fail
  go_at_call 6
  refine (hcl _).mono ?_
  rintro en w0 ⟨rfl, hw⟩
  have hw := hw.symm
  subst hw
  clear hcl
  go_wp2_with fail
  go_at_call 7
  refine (DrawExpr_any A len cap _ hlen hrow).mono ?_
  rintro en w1 ⟨v, u, l, zs, g, gz, rfl, hnr, hzr, hg1, hg2, hgood, hex, hll, hzs, hzl, hb1⟩
  have hl1 : 1 ≤ l.length ∧ l.length ≤ 60 := ⟨ex_ne hex, by omega⟩
  have HNV := Lib.hid hnr.view
  have HSV := Lib.hid hzr.view
  obtain ⟨capl, rfl, _⟩ := hnr
  obtain ⟨capz, rfl, _⟩ := hzr
  go_wp2_with fail
  go_at_call 8
  refine (mirrorI_any l _ _ HNV.out hl1 hgood hex).mono ?_
  rintro en w3 ⟨vm, rfl, hmy, hmn, hb3⟩
  have HMY := Lib.hid hmy
  have HMN := Lib.hid hmn
  have HB3 := Lib.hid (bl_call hb1 hb3)
  have HNV3 := Lib.hid (HNV.out.below hb3)
  have HSV3 := Lib.hid (HSV.out.below hb3)
  clear hmy hmn hb1 hb3
  go_wp2_with fail
  go_at_call 9
  refine (mirrorS_any l _ _ HNV3.out hl1 hgood hex).mono ?_
  rintro en w2 ⟨vs, rfl, hb2⟩
  have HB2 := Lib.hid (bl_call HB3.out hb2)
  have HNV2 := Lib.hid (HNV3.out.below hb2)
  have HSV2 := Lib.hid (HSV3.out.below hb2)
  have HMY2 := Lib.hid (fun hc => (HMY.out hc).below hb2)
  clear hb2
  cases hcan : can l
  · obtain rfl := HMN.out hcan
    go_wp2
    go_ret
    exact ⟨rfl, HB2.out⟩
  have HMV := Lib.hid (HMY2.out hcan)
  have hcn : (∀ x ∈ l, x.kind ≠ 7) ∧ (mirs l).length ≤ 60 := of_decide_eq_true hcan
  have HCN := Lib.hid hcn
  have hml : 1 ≤ (mirs l).length ∧ (mirs l).length ≤ 60 := ⟨Nat.le_trans hl1.1 (flat_mir_len l), hcn.2⟩
  have HML := Lib.hid hml
  have HGM := Lib.hid (mir_good hgood)
  have HXM := Lib.hid (mir_ex hex)
  obtain ⟨gm, capm, hvm, _, _⟩ := HMV.out
  subst hvm
  clear hcan hcn hml
  obtain ⟨bz, cz', hvb, hbu, hsc0⟩ := HSV2.out
  cases hvb
  have HSC := Lib.hid hsc0
  clear hsc0
  go_wp2
  go_loopw [9, 10] (fun out i wr => KtRel zs w2 out i wr) (fun _ i _ => zs.length - (RowKit.intOf i).toNat)
  case atStart => exact ⟨0, rfl, Nat.zero_le _, own_empty w2 _ (Nat.le_refl _), ⟨_, _, rfl⟩, bl_alloc (Below.refl _ _) _⟩
  case round =>
    obtain ⟨k, rfl, hk, hown, ⟨go, co, rfl⟩, hb⟩ := hrel
    have HO := Lib.hid hown
    have HB := Lib.hid hb
    have hsz := hb.size
    clear hown
    by_cases hkl : k < zs.length
    · have ck : decide ((k : Int) < (zs.length : Int)) = true := decide_eq_true (by omega)
      have q : wr.cell? ⟨gz, k, none⟩ = some (zv zs[k]) := (HB.out.cell (p := ⟨gz, k, none⟩) hbu).trans (HSC.out k hkl)
      have HQ := Lib.hid q
      go_wp2_with fail
      go_region_held3 (fun W => (Below w2.heap.size w2 W ∧ W.cell? ⟨gz, k, none⟩ = some (.complex .f64 zs[k].1 zs[k].2))) (first | exact ⟨HB.out.drew, HQ.out⟩ | exact ⟨bl_alloc HB.out.drew _, (bl_alloc HB.out.drew _).cell (p := ⟨gz, k, none⟩) hbu |>.trans (HSC.out k hkl)⟩ | exact ⟨HBX.out, (HBX.out.cell (p := ⟨gz, k, none⟩) hbu).trans (HSC.out k hkl)⟩)
        (first | (refine step_append_lies _ (by rfl) _ _ 25 (by rfl) w2.heap.size 30 i0 (.complex .f64 0 0) 1 16 Try.underlying25 hi hz0 hz1 hz2 rfl (by decide) _ _ _ (by rfl) (own_below HO.out (bl_alloc (Below.drew (Below.refl _ wr)) _)) ⟨wr.heap.size, 0, none⟩ 1 1 [zv (kz zs[k])] (by rfl) (by rfl) (zn_news wr.drew (kz zs[k])) (zn_one _) (by decide) (by unfold maxLen; omega) (by omega) (show w2.heap.size ≤ (wr.alloc _).heap.size by rw [World.size_alloc]; omega) _ (by rfl) ?_; intro g' cap' w5 hown' hgrow _ _; have HN := Lib.hid (kt_next hkl HO.out HB.out rfl rfl hown' hgrow); have HBX := Lib.hid ((bl_alloc HB.out.drew _).grown hgrow (show w2.heap.size ≤ (wr.alloc _).heap.size by rw [World.size_alloc]; omega) (fun j hj => by have := (HO.out.lt j hj).1; omega)); clear hown' hgrow))
      all_goals
        go_wp2
        case roundEnd => exact HN.out
    · have ck : decide ((k : Int) < (zs.length : Int)) = false := decide_eq_false (by omega)
      obtain rfl : k = zs.length := by omega
      have hown := HO.out
      rw [List.take_length] at hown
      have HOV := Lib.hid (kt_row rfl hown)
      have HNV4 := Lib.hid (HNV2.out.below HB.out)
      have HSV4 := Lib.hid (HSV2.out.below HB.out)
      have HMV4 := Lib.hid (HMV.out.below HB.out)
      have HB4 := Lib.hid (bl_call HB2.out HB.out)
      clear hown hb
      have HKL := Lib.hid (show (zs.map kz).length ≤ 5 by rw [List.length_map]; exact hzl)
      rcases evs_mirror hgood HCN.out.1 hex hzs with ⟨hq, hq'⟩ | ⟨z, y, hq, hq', heq⟩
      · have HQ := Lib.hid hq
        have HQ' : Hid (evs (zs.map kz) (mirs l) [] = none) := Lib.hid hq'
        clear hq hq'
        go_wp2_with fail
        go_at_call 10
        refine (evI_no HNV4.out HSV4.out hl1 hgood hex hzs hzl HQ.out).mono ?_
        rintro en w5 ⟨y5, rfl, hb5⟩
        go_wp2_with fail
        go_at_call 10
        refine (evI_no (HMV4.out.below hb5) (HOV.out.below hb5) HML.out HGM.out HXM.out (kz_ok hzs) HKL.out HQ'.out).mono ?_
        rintro en w6 ⟨y6, rfl, hb6⟩
        have HB7 := Lib.hid (bl_call HB4.out (bl_call hb5 hb6))
        clear hb5 hb6
        go_wp2
        go_ret
        exact ⟨rfl, HB7.out⟩
      · have HQ := Lib.hid hq
        have HQ' : Hid (evs (zs.map kz) (mirs l) [] = some [y]) := Lib.hid hq'
        have HEQ := Lib.hid heq
        clear hq hq' heq
        go_wp2_with fail
        go_at_call 10
        refine (evI_val HNV4.out HSV4.out hl1 hgood hex hzs hzl HQ.out).mono ?_
        rintro en w5 ⟨rfl, hzf, hb5⟩
        have HZ := Lib.hid hzf
        clear hzf
        go_wp2_with fail
        go_at_call 10
        refine (evI_val (HMV4.out.below hb5) (HOV.out.below hb5) HML.out HGM.out HXM.out (kz_ok hzs) HKL.out HQ'.out).mono ?_
        rintro en w6 ⟨rfl, hyf, hb6⟩
        have hE : (FloatKind.f64.format.order y.1 z.1 == some .eq && FloatKind.f64.format.order y.2 (Op.negFloat .f64 z.2) == some .eq) = true := HEQ.out HZ.out hyf
        have HB7 := Lib.hid (bl_call HB4.out (bl_call hb5 hb6))
        clear hb5 hb6 hyf
        go_wp2
        go_ret
        exact ⟨rfl, HB7.out⟩

theorem walk (A : Option Addr) (len cap : Nat) (w : World) (hlen : len ≤ maxLen) (hrow : RowOk w.heap.size w A len) :
    Calls Try.prog 3 #[.slice A len cap] w fun en w' => en = .returned (.bool true) ∧ Below w.heap.size w w' := by
  rcases Nat.lt_or_ge 1048576 len with h | h
  · exact walk_big A len cap w h
  · exact walk_small A len cap w h hlen hrow

set_option maxRecDepth 100000 in
theorem lifted (os : Os) (started : os.Started) (H : Type) (enc : TypeId × Value → H) :
    ReturnsInHanded {} Try.checked os 3 .any (Rows.fnMirrorExprSpec.pre6 enc Try.prog Try.f3 Rows.fnMirrorExprRow.domain false) (Rows.fnMirrorExprSpec.post enc Try.prog Try.f3 false true false false) := by
  refine returnsInHanded_of_change (C := Try.checked) own started (by kernel_rfl) Try.func3
    (ChangeSpec.witness6 (enc := enc) (C := Try.checked) false ⟨#[], #[.slice none 0 0], []⟩ 8 (by kernel_rfl) (by kernel_rfl) (by kernel_rfl) (by kernel_rfl)) ?_
  intro W base args ds gs before hval0 hW hcnd _
  have hval : ∀ (j : Nat) t v, Try.f3.params[j]? = some t → args[j]? = some v → Value.okWide Try.prog W .any base t v := hval0
  have hW' := hW
  obtain ⟨p, q, hA0, hV, rfl, hfz, hnd⟩ := hW
  have hA : DataW.TrodAll enc Try.prog W 0 (fun _ => true) true Try.f3.params.toList args.toList ds p := hA0
  rw [Try.params3] at hA hval
  obtain ⟨v0, vs0, d0, ds0, p0, q0, hargs, rfl, rfl, h0, r0⟩ := trodAll_cons hA
  obtain ⟨rfl, rfl, rfl⟩ := trodAll_nil r0
  obtain rfl : args = #[v0] := by cases args; simp_all
  obtain ⟨rfl, rfl⟩ := trodVars_none hV
  obtain ⟨a0, len0, cap0, rfl⟩ := okWide_slice Try.underlying22 (hval 0 22 v0 rfl rfl)
  have k0 := h0
  have lt0 : ∀ x ∈ p0, x.block < W.heap.size := by obtain ⟨m, hm⟩ := k0; exact DataW.trod_lt m _ _ _ hm
  obtain ⟨hl, hr⟩ : len0 ≤ maxLen ∧ RowOk W.heap.size W a0 len0 := by
    obtain ⟨fuel, hf⟩ := h0
    rcases open_ints Try.underlying22 Try.underlying5 (by kernel_rfl) hf with ⟨hcs, _⟩ | ⟨x, l, c, zs, hcs, _, hl, hm, hz, _, hcell, hwz⟩
    · simp [Value.cells] at hcs
      obtain ⟨rfl, rfl, rfl⟩ := hcs
      exact row_of (zs := []) (.inl ⟨rfl, rfl, rfl, rfl⟩)
    · simp [Value.cells] at hcs
      obtain ⟨rfl, rfl, rfl⟩ := hcs
      exact row_of (.inr ⟨_, rfl, hl, hm, by simpa using hz, hcell, hwz⟩)
  clear hA0 hval0
  refine (walk a0 len0 cap0 W hl hr).mono fun e W' ⟨he, bel⟩ => ?_
  subst he
  exact ⟨_, rfl, _, _, _, [], _, [], hW', trodAll_mk1 (shut_bool Try.underlying4 _), (trodAll_cons_mk (Below.trod laidOut (by kernel_rfl) (of_decide_eq_true (by kernel_rfl)) k0 bel lt0) trodAll_mk0), rfl, bel.frame _, fun h => by cases h⟩

theorem proved : Rows.FnMirrorExprSaid :=
  OpenClaim.holds_of_wide 3 Try.f3 rfl rfl rfl rfl rfl rfl rfl ⟨rfl, rfl, rfl, rfl, rfl⟩ rfl rfl rfl rfl rfl (by kernel_rfl) Try.func3 (by kernel_rfl)
    (of_decide_eq_true (by kernel_rfl)) (by unfold Func.isWrapper; first | (rw [if_pos (by decide +kernel)]; kernel_rfl) | (rw [if_neg (by decide +kernel)]; exact ⟨rfl, rfl⟩))
    (fun os started H enc _ => lifted os started H enc)
#print axioms proved
end Go.Proofs.Ytjacimccpadgeaa.fnMirrorExpr
