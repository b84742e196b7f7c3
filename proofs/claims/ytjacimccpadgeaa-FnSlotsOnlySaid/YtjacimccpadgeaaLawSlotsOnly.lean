/- For every input laws.FnSlotsOnly returns true: only the slots that an expression names play a part in its value. No condition. -/
import Derived.Test.YtjacimccpadgeaaSl
import Derived.ProofKit
import Derived.OpenShut
import Derived.ShutString
import Derived.ChangeOld
import Derived.Lib.SmallJoins
namespace Go.Proofs.Ytjacimccpadgeaa.fnSlotsOnly
open Go.ChangeShapes Go.WideShapes Go.ChangeAt Go.RowKit Go.Joins
open Go.ChangeMaps (open_string shut_string)
attribute [local go_sem] run_store_float run_store_complex
set_option maxRecDepth 100000
set_option maxHeartbeats 8000000
set_option linter.unusedVariables false
set_option linter.unusedSimpArgs false

theorem own : ownKnob Try.prog.godebug = none := by kernel_rfl
theorem laidOut : laidOutB Try.prog = true := by kernel_rfl

/-- A slot's value where it is named, else 7. -/
def othF (ns : List Int) (i : Nat) (z : Nat × Nat) : Nat × Nat := if (i : Int) ∈ ns then z else (4619567317775286272, 0)
def oth (ns : List Int) (zs : List (Nat × Nat)) : List (Nat × Nat) := zs.mapIdx (othF ns)
theorem oth_len (ns : List Int) (zs : List (Nat × Nat)) : (oth ns zs).length = zs.length := by unfold oth; simp
theorem oth_step (ns : List Int) {zs : List (Nat × Nat)} {k : Nat} (hk : k < zs.length) : oth ns (zs.take (k + 1)) = oth ns (zs.take k) ++ [othF ns k zs[k]] := by
  unfold oth
  rw [List.take_succ_eq_append_getElem hk, List.mapIdx_append]
  simp [Nat.min_eq_left (Nat.le_of_lt hk)]
theorem oth_get (ns : List Int) (zs : List (Nat × Nat)) {s : Int} (h0 : 0 ≤ s) (h : s ∈ ns) : (oth ns zs)[s.toNat]? = zs[s.toNat]? := by
  unfold oth
  rw [List.getElem?_mapIdx]
  cases hq : zs[s.toNat]? with
  | none => rfl
  | some z =>
    show some (othF ns s.toNat z) = some z
    unfold othF
    rw [if_pos (by rw [show ((s.toNat : Nat) : Int) = s by omega]; exact h)]
theorem oth_ok {ns : List Int} {zs : List (Nat × Nat)} (h : ∀ z ∈ zs, ZOk z) : ∀ z ∈ oth ns zs, ZOk z := by
  intro z hz
  unfold oth at hz
  obtain ⟨i, hi, rfl⟩ := List.mem_mapIdx.1 hz
  unfold othF
  split
  · exact h _ (List.getElem_mem hi)
  · exact ⟨by decide, by decide⟩
theorem stp_congr {x : Nd} {st zs zs' : List (Nat × Nat)} (h : x.kind = 2 → zs[x.slot.toNat]? = zs'[x.slot.toNat]?) : stp x st zs = stp x st zs' := by
  have e : ∀ ops, evF x ops zs = evF x ops zs' := fun ops => by
    by_cases h1 : x.kind = 1
    · unfold evF; rw [if_pos h1, if_pos h1]
    · by_cases h2 : x.kind = 2
      · unfold evF; rw [if_neg h1, if_pos h2, if_neg h1, if_pos h2, h h2]
      · unfold evF; rw [if_neg h1, if_neg h2, if_neg h1, if_neg h2]
  unfold stp
  rw [e]
theorem evs_congr {zs zs' : List (Nat × Nat)} : ∀ (l : List Nd) (st : List (Nat × Nat)), (∀ x ∈ l, x.kind = 2 → zs[x.slot.toNat]? = zs'[x.slot.toNat]?) → evs zs l st = evs zs' l st
  | [], st, _ => rfl
  | x :: l, st, h => by
    show (stp x st zs).bind (fun st' => evs zs l st') = (stp x st zs').bind fun st' => evs zs' l st'
    rw [stp_congr (h x List.mem_cons_self)]
    congr 1
    funext st'
    exact evs_congr l st' (fun y hy => h y (List.mem_cons_of_mem _ hy))
theorem good_slot {x : Nd} (h : GoodN x) (hk : x.kind = 2) : 0 ≤ x.slot := by
  rcases h with ⟨h1, _⟩ | ⟨_, h2, _⟩ | ⟨h3, _⟩
  · omega
  · exact h2.1
  · omega

/-- The loop's relation. -/
def OtRel (ns : List Int) (zs : List (Nat × Nat)) (w : World) (out i : Value) (wr : World) : Prop :=
  ∃ k : Nat, i = .int .i64 k ∧ k ≤ zs.length ∧ wr.ownsRow w.heap.size 30 1 out k ((oth ns (zs.take k)).map zv) ∧ (∃ g c, out = .slice (some ⟨g, 0, none⟩) k c) ∧ Below w.heap.size w wr
theorem ot_next {ns : List Int} {zs : List (Nat × Nat)} {w W W' : World} {k g' cap n : Nat} {out : Value} {xs : List Value} {y : Nat × Nat} {o : Obj} (hk : k < zs.length) (hy : othF ns k zs[k] = y) (hown : W.ownsRow w.heap.size 30 1 out k ((oth ns (zs.take k)).map zv)) (hb : Below w.heap.size w W)
    (hn : n = k + 1) (hx : xs = (oth ns (zs.take k)).map zv ++ [zv y]) (hown' : W'.ownsRow w.heap.size 30 1 (.slice (some ⟨g', 0, none⟩) n cap) n xs) (hgrow : (W.alloc o).grownBy W' out.ownBlock) :
    OtRel ns zs w (.slice (some ⟨g', 0, none⟩) n cap) (.int .i64 ((k : Int) + 1)) W' ∧ zs.length - (RowKit.intOf (.int .i64 ((k : Int) + 1))).toNat < zs.length - (RowKit.intOf (.int .i64 (k : Int))).toNat := by
  subst hn hx
  refine ⟨⟨k + 1, by simp, hk, ?_, ⟨g', cap, rfl⟩, (hb.alloc hb.size o).grown hgrow (Nat.le_trans hb.size (by rw [World.size_alloc]; omega)) (fun j hj => by have := (hown.lt j hj).1; omega)⟩, by simp [RowKit.intOf]; omega⟩
  rw [oth_step ns hk, hy, List.map_append]
  exact hown'
theorem ot_row {ns : List Int} {zs : List (Nat × Nat)} {w wr : World} {g c n : Nat} (hn : n = zs.length) (hown : wr.ownsRow w.heap.size 30 1 (.slice (some ⟨g, 0, none⟩) n c) n ((oth ns zs).map zv)) : SView wr (.slice (some ⟨g, 0, none⟩) n c) (oth ns zs) := by
  subst hn
  rw [← oth_len ns zs] at hown ⊢
  exact ZRow.view ⟨c, rfl, own_at hown⟩

theorem walk_big (A : Option Addr) (len cap : Nat) (w : World) (h : 1048576 < len) :
    Calls Try.prog 5 #[.slice A len cap] w fun en w' => en = .returned (.bool true) ∧ Below w.heap.size w w' := by
  have hd : decide ((1048576 : Int) < (len : Int)) = true := decide_eq_true (by omega)
  have hcl : ∀ W, Calls Try.prog 6 #[.slice A len cap] W fun en w' => en = .returned (.bool true) ∧ w' = W := fun W => hd ▸ big_any A len cap W
  go_enter Try.func5, Try.ntmps5
  go_wp2_with (go_at_call 6; (with_reducible refine (hcl _).mono ?_); rintro en w1 ⟨rfl, hw⟩; have hw := hw.symm; subst hw)
  go_ret
  exact ⟨rfl, Below.refl _ _⟩
theorem walk_small (A : Option Addr) (len cap : Nat) (w : World) (h : len ≤ 1048576) (hlen : len ≤ maxLen) (hrow : RowOk w.heap.size w A len) :
    Calls Try.prog 5 #[.slice A len cap] w fun en w' => en = .returned (.bool true) ∧ Below w.heap.size w w' := by
  have hd : decide ((1048576 : Int) < (len : Int)) = false := decide_eq_false (by omega)
  have hcl : ∀ W, Calls Try.prog 6 #[.slice A len cap] W fun en w' => en = .returned (.bool false) ∧ w' = W := fun W => hd ▸ big_any A len cap W
  obtain ⟨i0, hi, hz0, hz1, hz2⟩ := info_parts A_infoC
  go_enter Try.func5, Try.ntmps5
  go_wp2_with fail
  go_at_call 6
  refine (hcl _).mono ?_
  rintro en w0 ⟨rfl, hw⟩
  have hw := hw.symm
  subst hw
  clear hcl
  go_wp2_with fail
  go_at_call 7
  refine (DrawExpr_any A len cap _ hlen hrow).mono ?_
  rintro en w1 ⟨v, u, l, zs, g, gz, rfl, hnr, hzr, hg1, hg2, hgood, hex, hll, hzs, hzl, hb1⟩
  have hl1 : 1 ≤ l.length ∧ l.length ≤ 60 := ⟨ex_ne hex, by omega⟩
  have HNV := Lib.hid hnr.view
  have HSV := Lib.hid hzr.view
  obtain ⟨capl, rfl, _⟩ := hnr
  obtain ⟨capz, rfl, _⟩ := hzr
  go_wp2_with fail
  go_at_call 14
  refine (slotsOf_any l _ _ HNV.out hl1 hgood hex).mono ?_
  rintro en w2 ⟨vn, ns, rfl, hns, hnl, hall, hb2⟩
  have HNS := Lib.hid hns
  have HALL := Lib.hid hall
  have HB2 := Lib.hid (bl_call hb1 hb2)
  have HNV2 := Lib.hid (HNV.out.below hb2)
  have HSV2 := Lib.hid (HSV.out.below hb2)
  clear hns hall hb1 hb2
  go_wp2
  go_loopw [6, 7] (fun out i wr => OtRel ns zs w2 out i wr) (fun _ i _ => zs.length - (RowKit.intOf i).toNat)
  case atStart => exact ⟨0, rfl, Nat.zero_le _, own_empty w2 _ (Nat.le_refl _), ⟨_, _, rfl⟩, bl_alloc (Below.refl _ _) _⟩
  case round =>
    obtain ⟨k, rfl, hk, hown, ⟨go, co, rfl⟩, hb⟩ := hrel
    have HO := Lib.hid hown
    have HB := Lib.hid hb
    have hsz := hb.size
    clear hown
    by_cases hkl : k < zs.length
    · have ck : decide ((k : Int) < (zs.length : Int)) = true := decide_eq_true (by omega)
      obtain ⟨b', c', hvb, hbu, hsc⟩ := HSV2.out.below HB.out
      cases hvb
      have q := hsc k hkl
      clear hsc
      cases hin : decide ((k : Int) ∈ ns)
      · have HY : Hid (othF ns k zs[k] = (4619567317775286272, 0)) := Lib.hid (by unfold othF; rw [if_neg (of_decide_eq_false hin)])
        have hc : ∀ W, Below w2.heap.size w2 W → Calls Try.prog 15 #[vn, .int .i64 (k : Int)] W fun e w' => e = .returned (.bool false) ∧ w' = W := fun W hW => by
          have := hasIntZ_any vn ns (k : Int) _ W (by omega) (own_below HNS.out hW)
          rwa [hin] at this
        go_wp2_with fail
        go_at_call 15
        refine (hc _ HB.out).mono ?_
        rintro en w4 ⟨rfl, hw⟩
        have hw := hw.symm
        subst hw
        clear hc
        go_wp2_with (first | (at_builtin; refine wpList_append_lies _ rfl _ _ 25 rfl w2.heap.size 30 i0 (.complex .f64 0 0) 1 16 Try.underlying25 hi hz0 hz1 hz2 rfl (by decide) _ _ _ rfl (HO.out.alloc _) ⟨wr.heap.size, 0, none⟩ 1 1 [zv (4619567317775286272, 0)] rfl rfl ?c1 ?c2 (by decide) ?c3 ?c4 ?c5 _ rfl ?_))
        case c1 =>
          intro i u hj
          match i, hj with
          | 0, hj => simp at hj; subst hj; simp [Addr.add]
        case c2 => intro u hu; simp at hu; subst hu; rfl
        case c3 => unfold maxLen; omega
        case c4 => omega
        case c5 => rw [World.size_alloc]; omega
        · intro g' cap' w5 hown' hgrow _ _
          have HN := Lib.hid (ot_next hkl HY.out HO.out HB.out rfl rfl hown' hgrow)
          clear hown' hgrow
          go_wp2
          case roundEnd => exact HN.out
      · have HY : Hid (othF ns k zs[k] = zs[k]) := Lib.hid (by unfold othF; rw [if_pos (of_decide_eq_true hin)])
        have hc : ∀ W, Below w2.heap.size w2 W → Calls Try.prog 15 #[vn, .int .i64 (k : Int)] W fun e w' => e = .returned (.bool true) ∧ w' = W := fun W hW => by
          have := hasIntZ_any vn ns (k : Int) _ W (by omega) (own_below HNS.out hW)
          rwa [hin] at this
        go_wp2_with fail
        go_at_call 15
        refine (hc _ HB.out).mono ?_
        rintro en w4 ⟨rfl, hw⟩
        have hw := hw.symm
        subst hw
        clear hc
        go_wp2_with (first | (at_builtin; refine wpList_append_lies _ rfl _ _ 25 rfl w2.heap.size 30 i0 (.complex .f64 0 0) 1 16 Try.underlying25 hi hz0 hz1 hz2 rfl (by decide) _ _ _ rfl (HO.out.alloc _) ⟨wr.heap.size, 0, none⟩ 1 1 [zv zs[k]] rfl rfl ?c1 ?c2 (by decide) ?c3 ?c4 ?c5 _ rfl ?_))
        case c1 =>
          intro i u hj
          match i, hj with
          | 0, hj => simp at hj; subst hj; simp [Addr.add]
        case c2 => intro u hu; simp at hu; subst hu; rfl
        case c3 => unfold maxLen; omega
        case c4 => omega
        case c5 => rw [World.size_alloc]; omega
        · intro g' cap' w5 hown' hgrow _ _
          have HN := Lib.hid (ot_next hkl HY.out HO.out HB.out rfl rfl hown' hgrow)
          clear hown' hgrow
          go_wp2
          case roundEnd => exact HN.out
    · have ck : decide ((k : Int) < (zs.length : Int)) = false := decide_eq_false (by omega)
      obtain rfl : k = zs.length := by omega
      have hown := HO.out
      rw [List.take_length] at hown
      have HOV := Lib.hid (ot_row rfl hown)
      have HNV3 := Lib.hid (HNV2.out.below HB.out)
      have HSV3 := Lib.hid (HSV2.out.below HB.out)
      have HB3 := Lib.hid (bl_call HB2.out HB.out)
      clear hown hb
      have hcg := evs_congr (zs := oth ns zs) (zs' := zs) l [] (fun x hx hk => oth_get ns zs (good_slot (hgood x hx) hk) (HALL.out x hx hk))
      have HCG := Lib.hid hcg
      clear hcg
      cases hq : evs zs l [] with
      | none =>
        have HQO := Lib.hid (HCG.out.trans hq)
        go_wp2_with fail
        go_at_call 10
        refine (evI_no HNV3.out HSV3.out hl1 hgood hex hzs hzl hq).mono ?_
        rintro en w5 ⟨y5, rfl, hb5⟩
        go_wp2_with fail
        go_at_call 10
        refine (evI_no (HNV3.out.below hb5) (HOV.out.below hb5) hl1 hgood hex (oth_ok hzs) (by rw [oth_len]; exact hzl) HQO.out).mono ?_
        rintro en w6 ⟨y6, rfl, hb6⟩
        have hb36 := bl_call hb5 hb6
        go_wp2_with fail
        go_at_call 16
        refine (depthOf_any l _ _ (HNV3.out.below hb36) hl1 hgood hex).mono ?_
        rintro en w7 ⟨d, rfl, hd1, hd2, hb7⟩
        have HB7 := Lib.hid (bl_call HB3.out (bl_call hb36 hb7))
        have e1 : decide (1 ≤ d) = true := decide_eq_true hd1
        have e2 : decide (d ≤ (l.length : Int)) = true := decide_eq_true hd2
        clear hb5 hb6 hb7 hb36
        go_wp2
        go_ret
        exact ⟨rfl, HB7.out⟩
      | some st =>
        obtain ⟨z, rfl⟩ := evs_one hex hq
        have HQO := Lib.hid (HCG.out.trans hq)
        go_wp2_with fail
        go_at_call 10
        refine (evI_val HNV3.out HSV3.out hl1 hgood hex hzs hzl hq).mono ?_
        rintro en w5 ⟨rfl, hzf, hb5⟩
        have HZ := Lib.hid hzf
        clear hzf
        go_wp2_with fail
        go_at_call 10
        refine (evI_val (HNV3.out.below hb5) (HOV.out.below hb5) hl1 hgood hex (oth_ok hzs) (by rw [oth_len]; exact hzl) HQO.out).mono ?_
        rintro en w6 ⟨rfl, _, hb6⟩
        have hb36 := bl_call hb5 hb6
        go_wp2_with fail
        go_at_call 16
        refine (depthOf_any l _ _ (HNV3.out.below hb36) hl1 hgood hex).mono ?_
        rintro en w7 ⟨d, rfl, hd1, hd2, hb7⟩
        have HB7 := Lib.hid (bl_call HB3.out (bl_call hb36 hb7))
        have e1 : decide (1 ≤ d) = true := decide_eq_true hd1
        have e2 : decide (d ≤ (l.length : Int)) = true := decide_eq_true hd2
        clear hb5 hb6 hb7 hb36
        go_wp2_with (go_at_call 13; (with_reducible refine (sameL_self z _ HZ.out).mono ?_); rintro en wS ⟨rfl, nS, hw⟩; subst hw)
        go_ret
        exact ⟨rfl, bl_drewN HB7.out _⟩

theorem walk (A : Option Addr) (len cap : Nat) (w : World) (hlen : len ≤ maxLen) (hrow : RowOk w.heap.size w A len) :
    Calls Try.prog 5 #[.slice A len cap] w fun en w' => en = .returned (.bool true) ∧ Below w.heap.size w w' := by
  rcases Nat.lt_or_ge 1048576 len with h | h
  · exact walk_big A len cap w h
  · exact walk_small A len cap w h hlen hrow

set_option maxRecDepth 100000 in
theorem lifted (os : Os) (started : os.Started) (H : Type) (enc : TypeId × Value → H) :
    ReturnsInHanded {} Try.checked os 5 .any (Rows.fnSlotsOnlySpec.pre6 enc Try.prog Try.f5 Rows.fnSlotsOnlyRow.domain false) (Rows.fnSlotsOnlySpec.post enc Try.prog Try.f5 false true false false) := by
  refine returnsInHanded_of_change (C := Try.checked) own started (by kernel_rfl) Try.func5
    (ChangeSpec.witness6 (enc := enc) (C := Try.checked) false ⟨#[], #[.slice none 0 0], []⟩ 8 (by kernel_rfl) (by kernel_rfl) (by kernel_rfl) (by kernel_rfl)) ?_
  intro W base args ds gs before hval0 hW hcnd _
  have hval : ∀ (j : Nat) t v, Try.f5.params[j]? = some t → args[j]? = some v → Value.okWide Try.prog W .any base t v := hval0
  have hW' := hW
  obtain ⟨p, q, hA0, hV, rfl, hfz, hnd⟩ := hW
  have hA : DataW.TrodAll enc Try.prog W 0 (fun _ => true) true Try.f5.params.toList args.toList ds p := hA0
  rw [Try.params5] at hA hval
  obtain ⟨v0, vs0, d0, ds0, p0, q0, hargs, rfl, rfl, h0, r0⟩ := trodAll_cons hA
  obtain ⟨rfl, rfl, rfl⟩ := trodAll_nil r0
  obtain rfl : args = #[v0] := by cases args; simp_all
  obtain ⟨rfl, rfl⟩ := trodVars_none hV
  obtain ⟨a0, len0, cap0, rfl⟩ := okWide_slice Try.underlying22 (hval 0 22 v0 rfl rfl)
  have k0 := h0
  have lt0 : ∀ x ∈ p0, x.block < W.heap.size := by obtain ⟨m, hm⟩ := k0; exact DataW.trod_lt m _ _ _ hm
  obtain ⟨hl, hr⟩ : len0 ≤ maxLen ∧ RowOk W.heap.size W a0 len0 := by
    obtain ⟨fuel, hf⟩ := h0
    rcases open_ints Try.underlying22 Try.underlying5 (by kernel_rfl) hf with ⟨hcs, _⟩ | ⟨x, l, c, zs, hcs, _, hl, hm, hz, _, hcell, hwz⟩
    · simp [Value.cells] at hcs
      obtain ⟨rfl, rfl, rfl⟩ := hcs
      exact row_of (zs := []) (.inl ⟨rfl, rfl, rfl, rfl⟩)
    · simp [Value.cells] at hcs
      obtain ⟨rfl, rfl, rfl⟩ := hcs
      exact row_of (.inr ⟨_, rfl, hl, hm, by simpa using hz, hcell, hwz⟩)
  clear hA0 hval0
  refine (walk a0 len0 cap0 W hl hr).mono fun e W' ⟨he, bel⟩ => ?_
  subst he
  exact ⟨_, rfl, _, _, _, [], _, [], hW', trodAll_mk1 (shut_bool Try.underlying4 _), (trodAll_cons_mk (Below.trod laidOut (by kernel_rfl) (of_decide_eq_true (by kernel_rfl)) k0 bel lt0) trodAll_mk0), rfl, bel.frame _, fun h => by cases h⟩

theorem proved : Rows.FnSlotsOnlySaid :=
  OpenClaim.holds_of_wide 5 Try.f5 rfl rfl rfl rfl rfl rfl rfl ⟨rfl, rfl, rfl, rfl, rfl⟩ rfl rfl rfl rfl rfl (by kernel_rfl) Try.func5 (by kernel_rfl)
    (of_decide_eq_true (by kernel_rfl)) (by unfold Func.isWrapper; first | (rw [if_pos (by decide +kernel)]; kernel_rfl) | (rw [if_neg (by decide +kernel)]; exact ⟨rfl, rfl⟩))
    (fun os started H enc _ => lifted os started H enc)
#print axioms proved
end Go.Proofs.Ytjacimccpadgeaa.fnSlotsOnly
