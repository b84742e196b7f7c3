/- For every input laws.FnExactParseExpr returns true: the program's ParseExpr returns what the reference's returns. Condition: the listed tables read as the program's text lays them (the card ties them). -/
import Derived.Test.YtjgjgjkffoagoaaDoorRdH
import Derived.Test.YtjgjgjkffoagoaaDoorRzE
import Derived.Test.YtjgjgjkffoagoaaDoorEqN
import Derived.Test.YtjgjgjkffoagoaaDoorRows
import Derived.Test.YtjgjgjkffoagoaaDoorCards
import Derived.Test.YtjgjgjkffoagoaaDoorTie
import Derived.ProofKit
import Derived.LaidMore
import Derived.LaidLaws
import Derived.OpenShut
import Derived.ShutString
import Derived.ChangeOld
import Derived.SevenTiedAt
import Derived.Lib.SmallJoins
import Derived.Lib.LaidTab
import Derived.Stop.LaidErr
import Derived.MakeChecks
namespace Go.Proofs.YtjgjgjkffoagoaaDoor.fnExactParseExpr
open Go.ChangeShapes Go.WideShapes Go.ChangeAt Go.RowKit Go.Joins

theorem own : ownKnob Tryd.prog.godebug = none := by kernel_rfl
theorem laidOut : laidOutB Tryd.prog = true := by kernel_rfl
set_option maxRecDepth 100000
set_option maxHeartbeats 2000000
set_option linter.unusedVariables false
set_option linter.unusedSimpArgs false

theorem view_kept {c g cap n : Nat} {w w' : World} {l : List Nd} (h : NView w (.slice (some ⟨g, 0, none⟩) n cap) l) (hk : Kept c w w') (hne : g ≠ c) : NView w' (.slice (some ⟨g, 0, none⟩) n cap) l := by
  obtain ⟨g', cap', he, hg, hc⟩ := h
  have h1 : g = g' := by simpa using (Value.slice.inj he).1
  subst h1
  refine ⟨g, cap', he, Nat.lt_of_lt_of_le hg hk.size, fun k hkl => ?_⟩
  obtain ⟨a, b, d⟩ := hc k hkl
  exact ⟨(hk.cell (p := ⟨g, k * 3, none⟩) hg hne).trans a, (hk.cell (p := ⟨g, k * 3 + 1, none⟩) hg hne).trans b, (hk.cell (p := ⟨g, k * 3 + 2, none⟩) hg hne).trans d⟩
/-- What both come to. -/
theorem both (s : List UInt8) : ∃ q : Option (List Nd), (∀ W, Lib.TabIs Tryd.prog W "internal/strconv.uint64pow10" .u64 Lib.pow10Tab → Calls Tryd.prog 9 #[tx s] W (ParEnd W q)) ∧ (∀ W, Calls Tryd.prog 11 #[tx s] W (PzEnd W q)) ∧ (∀ l, q = some l → 1 ≤ l.length ∧ l.length ≤ 60 ∧ ∀ x ∈ l, GoodP x) := by
  rcases Nat.lt_or_ge 600 s.length with h | h
  · exact ⟨none, fun W _ => parse_long s h W, fun W => parseS_long s h W, fun l hl => by cases hl⟩
  · obtain ⟨r, hp⟩ := prs_total s _ (.lev 0) 0 [] (show 0 ≤ 3 by omega) (Nat.zero_le _) (Nat.le_refl _)
    refine ⟨parR s r, fun W ht => parse_any s h W ht _ r hp, fun W => parseS_any s h W _ r hp, fun l hl => ?_⟩
    cases r with
    | none => cases hl
    | some p =>
      obtain ⟨i, o⟩ := p
      have hq : (if nextB s i = 0 ∧ skip s i = s.length ∧ o.length ≤ 60 then some o else none) = some l := hl
      split at hq
      · rename_i hc
        obtain rfl := Option.some.inj hq
        obtain ⟨l', h1, h2, h3⟩ := (came_all s _ (.lev 0) 0 [] i o hp (show 0 ≤ 3 by omega) (Nat.zero_le _)).row
        rw [List.nil_append] at h1
        subst h1
        exact ⟨ex_ne (show IsEx o from h2), hc.2.2, h3⟩
      · cases hq
theorem walk_none (s : List UInt8) (hs : ¬ (1048576 : Int) < (s.length : Int)) (w : World) (htab : Lib.TabIs Tryd.prog w "internal/strconv.uint64pow10" .u64 Lib.pow10Tab)
    (HI : Hid (∀ W, Lib.TabIs Tryd.prog W "internal/strconv.uint64pow10" .u64 Lib.pow10Tab → Calls Tryd.prog 9 #[tx s] W (ParEnd W none))) (HS : Hid (∀ W, Calls Tryd.prog 11 #[tx s] W (PzEnd W none))) :
    Calls Tryd.prog 4 #[tx s] w fun en w' => en = .returned (.bool true) ∧ Below w.heap.size w w' := by
  have hd : decide ((1048576 : Int) < (s.length : Int)) = false := decide_eq_false hs
  have HT := Lib.hid htab
  clear htab hs
  go_enter Tryd.func4, Tryd.ntmps4
  go_wp2_with fail
  go_at_call 11
  refine (HS.out _).mono ?_
  rintro en w1 ⟨v1, rfl, hn1, _, hb1⟩
  obtain ⟨a1, c1, rfl⟩ := hn1 rfl
  have HB1 := Lib.hid hb1
  clear hn1 hb1
  go_wp2_with fail
  go_at_call 9
  refine (HI.out _ (tab_on HT.out HB1.out)).mono ?_
  rintro en w2 ⟨v2, rfl, hn2, _, hb2⟩
  obtain rfl := hn2 rfl
  have HB2 := Lib.hid (bl_call HB1.out hb2)
  clear hn2 hb2
  go_wp2_with (first | (go_at_call 12; (with_reducible refine (eqNodeS_nil _ _ _ _ _).mono ?_); rintro e w9 ⟨rfl, hw9⟩; have hw9x := hw9.symm; clear hw9; subst hw9x) | (go_at_call 13; (with_reducible refine (markNodeS_nil _ _ _).mono ?_); rintro e w9 ⟨rfl, hw9⟩; have hw9x := hw9.symm; clear hw9; subst hw9x) | (go_at_call 14; (with_reducible refine (heldNodeS_nil _ _ _).mono ?_); rintro e w9 ⟨rfl, hw9⟩; have hw9x := hw9.symm; clear hw9; subst hw9x))
  go_at_call 9
  refine (HI.out _ (tab_on HT.out HB2.out)).mono ?_
  rintro en w3 ⟨v3, rfl, hn3, _, hb3⟩
  obtain rfl := hn3 rfl
  have HB3 := Lib.hid (bl_call HB2.out hb3)
  clear hn3 hb3
  go_wp2_with (first | (go_at_call 12; (with_reducible refine (eqNodeS_nil _ _ _ _ _).mono ?_); rintro e w9 ⟨rfl, hw9⟩; have hw9x := hw9.symm; clear hw9; subst hw9x) | (go_at_call 13; (with_reducible refine (markNodeS_nil _ _ _).mono ?_); rintro e w9 ⟨rfl, hw9⟩; have hw9x := hw9.symm; clear hw9; subst hw9x) | (go_at_call 14; (with_reducible refine (heldNodeS_nil _ _ _).mono ?_); rintro e w9 ⟨rfl, hw9⟩; have hw9x := hw9.symm; clear hw9; subst hw9x))
  go_ret
  exact ⟨rfl, HB3.out⟩
theorem walk_some (s : List UInt8) (hs : ¬ (1048576 : Int) < (s.length : Int)) (w : World) (htab : Lib.TabIs Tryd.prog w "internal/strconv.uint64pow10" .u64 Lib.pow10Tab) (l : List Nd) (hl1 : 1 ≤ l.length) (hl60 : l.length ≤ 60) (hg : ∀ x ∈ l, GoodP x)
    (HI : Hid (∀ W, Lib.TabIs Tryd.prog W "internal/strconv.uint64pow10" .u64 Lib.pow10Tab → Calls Tryd.prog 9 #[tx s] W (ParEnd W (some l)))) (HS : Hid (∀ W, Calls Tryd.prog 11 #[tx s] W (PzEnd W (some l)))) :
    Calls Tryd.prog 4 #[tx s] w fun en w' => en = .returned (.bool true) ∧ Below w.heap.size w w' := by
  have hd : decide ((1048576 : Int) < (s.length : Int)) = false := decide_eq_false hs
  have e1 : decide (3 * (l.length : Int) + 1 < 0) = false := decide_eq_false (by omega)
  have e2 : decide (((3 * l.length + 1 : Nat) : Int) < 0) = false := decide_eq_false (by omega)
  have HT := Lib.hid htab
  clear htab hs
  go_enter Tryd.func4, Tryd.ntmps4
  go_wp2_with fail
  go_at_call 11
  refine (HS.out _).mono ?_
  rintro en w1 ⟨v1, rfl, _, hr1, hb1⟩
  obtain ⟨g1, cap1, rfl, hg1, hc1⟩ := nd_view (hr1 _ rfl) hl1
  have HV1 : Hid (NView w1 (.slice (some ⟨g1, 0, none⟩) l.length cap1) l) := Lib.hid ⟨g1, cap1, rfl, hg1, hc1⟩
  have HB1 := Lib.hid hb1
  clear hr1 hb1 hc1
  go_wp2_with fail
  go_at_call 9
  refine (HI.out _ (tab_on HT.out HB1.out)).mono ?_
  rintro en w2 ⟨v2, rfl, _, hr2, hb2⟩
  have hown2 := hr2 _ rfl
  obtain ⟨g2, cap2, rfl, hg2, hc2⟩ := nd_view hown2 hl1
  have HV2 : Hid (NView w2 (.slice (some ⟨g2, 0, none⟩) l.length cap2) l) := Lib.hid ⟨g2, cap2, rfl, hg2, hc2⟩
  have hg12 : w1.heap.size ≤ g2 := (hown2.lt g2 rfl).1
  have HOW2 := Lib.hid hown2
  have HV1' := Lib.hid (HV1.out.below hb2)
  have HB2 := Lib.hid (bl_call HB1.out hb2)
  have hsz1 := HB1.out.size
  clear hr2 hb2 hc2 hown2
  go_wp2_with fail
  go_at_call 12
  refine (eqNodeS_self l _ _ _ HV2.out HV1'.out hl60 hg).mono ?_
  rintro en w3 ⟨rfl, hb3⟩
  have HV3 := Lib.hid (HV1'.out.below hb3)
  have HB3 := Lib.hid (bl_call HB2.out hb3)
  have hown3 := own_below HOW2.out hb3
  have hg3 : g2 < w3.heap.size := Nat.lt_of_lt_of_le hg2 hb3.size
  obtain ⟨cs, hblk, hcs⟩ : ∃ cs, Blk w3 g2 43 cs ∧ l.length * 3 ≤ cs.size := by
    rcases hown3.2 with ⟨h1, _⟩ | ⟨g', cap', cur, h1, h2, h3, h4, h5, h6, h7⟩
    · simp at h1
    · have hgg : g2 = g' := by simpa using (Value.slice.inj h1).1
      subst hgg
      exact ⟨cur, h3, by rw [h6]; exact Nat.mul_le_mul_right 3 h4⟩
  clear hb3 hown3
  go_wp2_with fail
  go_at_call 13
  refine (markNodeS_any l.length g2 cap2 cs _ hl60 hblk hcs).mono ?_
  rintro en w4 ⟨rfl, hk4, cs4, hblk4, hm4⟩
  have HV4 := Lib.hid (view_kept HV3.out hk4 (by omega))
  have HB4 := Lib.hid (HB3.out.trans (hk4.below (B := w.heap.size) (by omega) HB3.out.size))
  have HBK4 := Lib.hid hblk4
  have HM4 := Lib.hid hm4
  have hg4 : g2 < w4.heap.size := hblk4.lt
  clear hblk hcs hk4 hblk4 hm4
  go_wp2_with fail
  go_at_call 14
  refine (heldNodeS_any l.length g2 cap2 cs4 _ hl60 HBK4.out HM4.out).mono ?_
  rintro en w9 ⟨rfl, hw9⟩
  have hw9 := hw9.symm
  subst hw9
  go_wp2_with fail
  go_at_call 9
  refine (HI.out _ (tab_on HT.out HB4.out)).mono ?_
  rintro en w5 ⟨v5, rfl, _, hr5, hb5⟩
  obtain ⟨g5, cap5, rfl, hg5, hc5⟩ := nd_view (hr5 _ rfl) hl1
  have HV5 : Hid (NView w5 (.slice (some ⟨g5, 0, none⟩) l.length cap5) l) := Lib.hid ⟨g5, cap5, rfl, hg5, hc5⟩
  have HV45 := Lib.hid (HV4.out.below hb5)
  have HBK5 := Lib.hid (HBK4.out.below hb5 hg4)
  have HB5 := Lib.hid (bl_call HB4.out hb5)
  have hg45 : g2 < w5.heap.size := Nat.lt_of_lt_of_le hg4 hb5.size
  clear hr5 hb5 hc5
  go_wp2_with fail
  go_at_call 12
  refine (eqNodeS_self l _ _ _ HV5.out HV45.out hl60 hg).mono ?_
  rintro en w6 ⟨rfl, hb6⟩
  have HBK6 := Lib.hid (HBK5.out.below hb6 hg45)
  have HB6 := Lib.hid (bl_call HB5.out hb6)
  clear hb6
  go_wp2_with fail
  go_at_call 14
  refine (heldNodeS_any l.length g2 cap2 cs4 _ hl60 HBK6.out HM4.out).mono ?_
  rintro en w9 ⟨rfl, hw9⟩
  have hw9 := hw9.symm
  subst hw9
  go_wp2
  go_ret
  exact ⟨rfl, HB6.out⟩
theorem walk (s : List UInt8) (hl : s.length ≤ 9223372036854775807) (w : World) (htab : Lib.TabIs Tryd.prog w "internal/strconv.uint64pow10" .u64 Lib.pow10Tab) :
    Calls Tryd.prog 4 #[tx s] w fun en w' => en = .returned (.bool true) ∧ Below w.heap.size w w' := by
  by_cases hs : (1048576 : Int) < (s.length : Int)
  · have hd : decide ((1048576 : Int) < (s.length : Int)) = true := decide_eq_true hs
    go_enter Tryd.func4, Tryd.ntmps4
    go_wp2
    go_ret
    exact ⟨rfl, Below.refl _ _⟩
  · obtain ⟨q, h1, h2, h3⟩ := both s
    cases q with
    | none => exact walk_none s hs w htab (Lib.hid h1) (Lib.hid h2)
    | some l =>
      obtain ⟨a, b, c⟩ := h3 l rfl
      exact walk_some s hs w htab l a b c (Lib.hid h1) (Lib.hid h2)

/-- The tables that these rows list. -/
abbrev laid3 : List (String × DataW Unit) := [("math/bits.deBruijn32tab", Rows.laid_math_bits_deBruijn32tab), ("math/bits.deBruijn64tab", Rows.laid_math_bits_deBruijn64tab), ("internal/strconv.uint64pow10", Rows.laid_internal_strconv_uint64pow10)]

/-- The heap that the program's own start leaves meets the condition. -/
theorem door_met (os : Os) (args : Array Value) : laidMetH Tryd.prog laid3 ((World.doorLaid Tryd.prog 400 os).forCall (fun _ _ => 0) ⟨#[], args, []⟩).memory :=
  laidMetH_of_parts3 (fuel := 8) (laidMet_of_run' 8 (by kernel_rfl) (by kernel_rfl)) (by kernel_rfl) (by kernel_rfl)

/-- The table of powers of ten, from the condition. -/
theorem pow_of_laid {W : World} (h : laidMetH Tryd.prog laid3 W) : Lib.TabIs Tryd.prog W "internal/strconv.uint64pow10" .u64 Lib.pow10Tab := by
  rw [MakeChecks.laidMetH_plain _ _ _ (by kernel_rfl)] at h
  have h2 : laidMet Tryd.prog [("internal/strconv.uint64pow10", Lib.tabData .u64 Lib.pow10Tab)] W := laidMet.tail (laidMet.tail h)
  exact Lib.tabIs_of_head (g := 2) (rest := []) (by kernel_rfl) (t := 119) (by kernel_rfl) (n := 20) Tryd.underlying119 (e := 104) Tryd.underlying104 (by kernel_rfl) (by kernel_rfl) h2

set_option maxRecDepth 100000 in
theorem lifted (os : Os) (started : os.Started) (H : Type) (enc : TypeId × Value → H) :
    ReturnsInHanded {} Tryd.checked os 4 .any (fun w args => (Rows.fnExactParseExprSpec.pre enc Tryd.prog Tryd.f4 [] false w args ∧ laidMetH Tryd.prog laid3 w) ∧ sizedMet enc Tryd.prog Tryd.f4 (OpenSpec.ofChange Rows.fnExactParseExprSpec) false w args)
      (Rows.fnExactParseExprSpec.post enc Tryd.prog Tryd.f4 false true false false) := by
  refine returnsInHanded_of_change_and (C := Tryd.checked) (X := fun w _ => laidMetH Tryd.prog laid3 w) (fun _ _ _ hh h => h.of_heap hh) own started (by kernel_rfl) Tryd.func4
    (ChangeSpec.witness_shaped (enc := enc) (C := Tryd.checked) (os := os) (X := fun w _ => laidMetH Tryd.prog laid3 w) false (World.doorLaid Tryd.prog 400 os) #[.string ⟨#[]⟩] 8 rfl (World.shaped_of_RefB (by kernel_rfl) (by kernel_rfl)) (by kernel_rfl) (by kernel_rfl) (by kernel_rfl) (door_met os _)) ?_
  intro W base args ds gs before hval0 hW _ _ hL _
  have hval : ∀ (j : Nat) t v, Tryd.f4.params[j]? = some t → args[j]? = some v → Value.okWide Tryd.prog W .any base t v := hval0
  have hW' := hW
  obtain ⟨p, q, hA0, hV, rfl, hfz, hnd⟩ := hW
  have hA : DataW.TrodAll enc Tryd.prog W 0 (fun _ => true) true Tryd.f4.params.toList args.toList ds p := hA0
  rw [Tryd.params4] at hA hval
  obtain ⟨v0, d0, rfl, rfl, h0⟩ := trodAll_one hA
  obtain ⟨rfl, rfl⟩ := trodVars_none hV
  have k0 := h0
  have lt0 : ∀ x ∈ p, x.block < W.heap.size := by obtain ⟨m, hm⟩ := k0; exact DataW.trod_lt m _ _ _ hm
  obtain ⟨s, rfl, rfl, rfl, ws⟩ := Go.ChangeMaps.open_string Tryd.underlying9 (hval 0 9 v0 rfl rfl) h0
  obtain ⟨l, rfl⟩ : ∃ l : List UInt8, s = ⟨l.toArray⟩ := ⟨s.data.toList, rfl⟩
  have htab := pow_of_laid hL
  clear hA0 hval0
  have hl : l.length ≤ 9223372036854775807 := by
    have h : l.length ≤ maxLen := ws
    unfold maxLen at h
    omega
  refine (walk l hl W htab).mono fun e W' ⟨he, bel⟩ => ?_
  subst he
  exact ⟨_, rfl, _, _, _, [], _, [], hW', trodAll_mk1 (shut_bool Tryd.underlying4 _), trodAll_cons_mk (Below.trod laidOut (by kernel_rfl) (of_decide_eq_true (by kernel_rfl)) k0 bel lt0) trodAll_mk0, rfl, bel.frame _, fun h => by cases h⟩

theorem said : Rows.FnExactParseExprSaid :=
  OpenClaim.holds_of_wide 4 Tryd.f4 rfl rfl rfl rfl rfl rfl rfl ⟨rfl, rfl, rfl, rfl, rfl⟩ rfl rfl rfl rfl rfl (by kernel_rfl) Tryd.func4 (by kernel_rfl)
    (of_decide_eq_true (by kernel_rfl)) (by unfold Func.isWrapper; first | (rw [if_pos (by decide +kernel)]; kernel_rfl) | (rw [if_neg (by decide +kernel)]; exact ⟨rfl, rfl⟩))
    (fun os started H enc _ => lifted os started H enc)

theorem proved : Rows.FnExactParseExprCardSaid :=
  Claim7.holds_tied_plain_at .later [] [.data, .data, .data] true (true, "1841ad23a7aeead5fda796987d640d41234051bc61676f2b0e520ad89c73d433") false
    said (fun _ h => by cases h) (by kernel_rfl) (fun _ h => by cases h) fnExactParseExpr_row_tie rfl ⟨rfl, rfl⟩ (by kernel_rfl) rfl
    (fun f fn hf hfn => by
      obtain rfl : f = 4 := Option.some.inj ((show Tryd.prog.funcNamed "loop.example/g03320/laws.FnExactParseExpr" = some 4 by kernel_rfl).symm.trans hf) |>.symm
      obtain rfl : fn = Tryd.f4 := (Option.some.inj (Tryd.func4.symm.trans hfn)).symm
      exact ⟨by kernel_rfl, fun j t ht => by
        rw [Tryd.params4] at ht
        have hm : t ∈ [9] := by simpa using Array.mem_of_getElem? ht
        have hall : ([9].all fun u => !Tryd.prog.wantsStandIn u) = true := by kernel_rfl
        exact (show Tryd.prog.wantsStandIn t = false by simpa using List.all_eq_true.1 hall t hm)⟩)
    (by kernel_rfl)
#print axioms proved
end Go.Proofs.YtjgjgjkffoagoaaDoor.fnExactParseExpr
