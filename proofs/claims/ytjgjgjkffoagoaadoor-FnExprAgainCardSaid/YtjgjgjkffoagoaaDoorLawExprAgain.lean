/- For every input laws.FnExprAgain returns true: an expression that is written is read as the same expression, also with spaces around it or in parentheses. Condition: the listed tables read as the program's text lays them (the card ties them). -/
import Derived.Test.YtjgjgjkffoagoaaDoorFmC
import Derived.Test.YtjgjgjkffoagoaaDoorSame
import Derived.Test.YtjgjgjkffoagoaaDoorRdH
import Derived.Test.YtjgjgjkffoagoaaDoorSlot
import Derived.Test.YtjgjgjkffoagoaaDoorRows
import Derived.Test.YtjgjgjkffoagoaaDoorCards
import Derived.Test.YtjgjgjkffoagoaaDoorTie
import Derived.ProofKit
import Derived.LaidMore
import Derived.LaidLaws
import Derived.OpenShut
import Derived.ShutString
import Derived.ChangeOld
import Derived.SevenTiedAt
import Derived.Lib.SmallJoins
import Derived.Lib.LaidTab
import Derived.Stop.LaidErr
import Derived.MakeChecks
namespace Go.Proofs.YtjgjgjkffoagoaaDoor.fnExprAgain
open Go.ChangeShapes Go.WideShapes Go.ChangeAt Go.RowKit Go.Joins

theorem own : ownKnob Tryd.prog.godebug = none := by kernel_rfl
theorem laidOut : laidOutB Tryd.prog = true := by kernel_rfl
set_option maxRecDepth 100000
set_option maxHeartbeats 2000000
set_option linter.unusedVariables false
set_option linter.unusedSimpArgs false

theorem ex_len {l : List Nd} (h : IsEx l) : 1 ≤ l.length := by
  cases l with
  | nil => exact absurd (h 0) (by simp [hrun])
  | cons x l => simp
theorem own_view {base : Nat} {w : World} {v : Value} {l : List Nd} (h : w.ownsRow base 43 3 v l.length (l.flatMap ndCells)) (hl : 1 ≤ l.length) : NView w v l := by
  obtain ⟨g, cap, rfl⟩ := Joins.ownsRow_form h (by omega)
  refine ⟨g, cap, rfl, (h.lt g rfl).2, fun k hk => ?_⟩
  obtain ⟨a, b, c⟩ := flat_get l k hk
  have hc := h.cells rfl
  have e : ∀ j, (⟨g, 0, none⟩ : Addr).add j = ⟨g, j, none⟩ := fun j => by unfold Addr.add; split <;> simp_all
  refine ⟨?_, ?_, ?_⟩
  · rw [← e]; exact hc _ _ a
  · rw [← e]; exact hc _ _ b
  · rw [← e]; exact hc _ _ c
/-- What reading one of the three texts comes to. -/
theorem par_back {t : Ex} (hv : t.Val) (h60 : t.flat.length ≤ 60) (s : List UInt8) (hs : s = t.txt ∨ s = 40 :: (t.txt ++ [41]) ∨ s = 32 :: (t.txt ++ [32])) : ∃ F r, prs s F (.lev 0) 0 [] = some r ∧ parR s r = some t.flat := by
  obtain ⟨F, r, h1, h2, h3⟩ := read_back hv h60 s hs
  refine ⟨F, r, h1, ?_⟩
  cases r with
  | none => cases h2
  | some p =>
    obtain ⟨i, o⟩ := p
    obtain ⟨rfl, h4⟩ := h3 i o rfl
    show (if _ then _ else _) = _
    rw [if_pos ⟨by unfold nextB; rw [h4, List.getElem?_eq_none (Nat.le_refl _)]; rfl, h4, h60⟩]
theorem parse_back {t : Ex} (hv : t.Val) (h1 : 1 ≤ t.flat.length) (h60 : t.flat.length ≤ 60) (s : List UInt8) (hs : s = t.txt ∨ s = 40 :: (t.txt ++ [41]) ∨ s = 32 :: (t.txt ++ [32])) (hl : s.length ≤ 600) (w : World) (htab : Lib.TabIs Tryd.prog w "internal/strconv.uint64pow10" .u64 Lib.pow10Tab) :
    Calls Tryd.prog 9 #[tx s] w fun e w' => ∃ g cap, e = .returned (.tuple #[.slice (some ⟨g, 0, none⟩) t.flat.length cap, .bool true]) ∧ NView w' (.slice (some ⟨g, 0, none⟩) t.flat.length cap) t.flat ∧ Below w.heap.size w w' := by
  obtain ⟨F, r, p1, p2⟩ := par_back hv h60 s hs
  refine (parse_any s hl w htab F r p1).mono ?_
  rintro e w' ⟨v, rfl, _, ho, hb⟩
  rw [p2] at ho ⊢
  have hw := own_view (ho _ rfl) h1
  obtain ⟨g, cap, rfl, hx⟩ := hw
  exact ⟨g, cap, rfl, ⟨g, cap, rfl, hx⟩, hb⟩
theorem shut_is (a b : UInt8) (t : List UInt8) : ((⟨#[a]⟩ : ByteArray) ++ (⟨t.toArray⟩ : ByteArray)) ++ (⟨#[b]⟩ : ByteArray) = ⟨(a :: (t ++ [b])).toArray⟩ := by
  show ((⟨[a].toArray⟩ : ByteArray) ++ (⟨t.toArray⟩ : ByteArray)) ++ (⟨[b].toArray⟩ : ByteArray) = _
  rw [cat, cat]; rfl

theorem walk_big (A : Option Addr) (len cap : Nat) (w : World) (h : 1048576 < len) :
    Calls Tryd.prog 3 #[.slice A len cap] w fun en w' => en = .returned (.bool true) ∧ Below w.heap.size w w' := by
  have hd : decide ((1048576 : Int) < (len : Int)) = true := decide_eq_true (by omega)
  have hcl : ∀ W, Calls Tryd.prog 5 #[.slice A len cap] W fun en w' => en = .returned (.bool true) ∧ w' = W := fun W => hd ▸ big_any A len cap W
  go_enter Tryd.func3, Tryd.ntmps3
  go_wp2_with (go_at_call 5; (with_reducible refine (hcl _).mono ?_); rintro en w1 ⟨rfl, hw⟩; have hw := hw.symm; subst hw)
  go_ret
  exact ⟨rfl, Below.refl _ _⟩
theorem walk_small (A : Option Addr) (len cap : Nat) (w : World) (h : len ≤ 1048576) (hlen : len ≤ maxLen) (hrow : RowOk w.heap.size w A len) (htab : Lib.TabIs Tryd.prog w "internal/strconv.uint64pow10" .u64 Lib.pow10Tab) :
    Calls Tryd.prog 3 #[.slice A len cap] w fun en w' => en = .returned (.bool true) ∧ Below w.heap.size w w' := by
  have hd : decide ((1048576 : Int) < (len : Int)) = false := decide_eq_false (by omega)
  have hcl : ∀ W, Calls Tryd.prog 5 #[.slice A len cap] W fun en w' => en = .returned (.bool false) ∧ w' = W := fun W => hd ▸ big_any A len cap W
  have HT := Lib.hid htab
  clear htab
  go_enter Tryd.func3, Tryd.ntmps3
  go_wp2_with fail
  go_at_call 5
  refine (hcl _).mono ?_
  rintro en w0 ⟨rfl, hw⟩
  have hw := hw.symm
  subst hw
  clear hcl
  go_wp2_with fail
  go_at_call 6
  refine (DrawExpr_any A len cap _ hlen hrow).mono ?_
  rintro en w1 ⟨v, u, l, zs, g, gz, rfl, hnr, hzr, hg1, hg2, hgood, hex, hll, hzs, hzl, hb1⟩
  have hl1 : 1 ≤ l.length ∧ l.length ≤ 60 := ⟨ex_len hex, by omega⟩
  have HNV := Lib.hid hnr.view
  have HB1 := Lib.hid hb1
  clear hzr hb1
  obtain ⟨capl, rfl, _⟩ := hnr
  go_wp2_with fail
  go_at_call 7
  refine (formatI_any l _ _ HNV.out hl1 hgood hex (tab_on HT.out HB1.out)).mono ?_
  rintro en w2 ⟨t, htv, htf, hend, hb2⟩
  have HNV2 := Lib.hid (HNV.out.below hb2)
  have HB2 := Lib.hid (bl_call HB1.out hb2)
  clear hb2
  rcases hend with ⟨ht600, rfl⟩ | ⟨ht600, rfl⟩
  · have hp1 := fun W => parse_back htv (by rw [htf]; exact hl1.1) (by rw [htf]; exact hl1.2) t.txt (.inl rfl) (by omega) W
    rw [htf] at hp1
    have HP := Lib.hid hp1
    clear hp1
    go_wp2_with fail
    go_at_call 9
    refine (HP.out _ (tab_on HT.out HB2.out)).mono ?_
    rintro en w3 ⟨g3, cap3, rfl, hv3, hb3⟩
    have HB3 := Lib.hid (bl_call HB2.out hb3)
    have HNV3 := Lib.hid (HNV2.out.below hb3)
    have HV3 := Lib.hid hv3
    clear hb3 hv3
    go_wp2_with fail
    go_at_call 10
    refine (sameNodes_self l _ _ _ HV3.out HNV3.out hl1.2 hgood).mono ?_
    rintro en w4 ⟨rfl, n4, hw⟩
    subst hw
    have HB4 := Lib.hid (bl_drewN HB3.out n4)
    have HNV4 := Lib.hid (HNV3.out.below (bl_drewN (Below.refl _ _) n4))
    by_cases h598 : 598 < t.txt.length
    · have c1 : decide ((600 : Int) < (t.txt.length : Int) + 2) = true := decide_eq_true (by omega)
      go_wp2
      go_ret
      exact ⟨rfl, HB4.out⟩
    · have c1 : decide ((600 : Int) < (t.txt.length : Int) + 2) = false := decide_eq_false (by omega)
      have f1 : (9223372036854775807 < 1 + t.txt.length) = False := eq_false (by omega)
      have f2 : (9223372036854775807 < 1 + t.txt.length + 1) = False := eq_false (by omega)
      have hp2 := fun W => parse_back htv (by rw [htf]; exact hl1.1) (by rw [htf]; exact hl1.2) (40 :: (t.txt ++ [41])) (.inr (.inl rfl)) (by simp; omega) W
      have hp3 := fun W => parse_back htv (by rw [htf]; exact hl1.1) (by rw [htf]; exact hl1.2) (32 :: (t.txt ++ [32])) (.inr (.inr rfl)) (by simp; omega) W
      rw [htf] at hp2 hp3
      have HP2 := Lib.hid hp2
      have HP3 := Lib.hid hp3
      clear hp2 hp3
      go_wp2_with fail
      go_at_call 9
      rw [shut_is]
      refine (HP2.out _ (tab_on HT.out HB4.out)).mono ?_
      rintro en w5 ⟨g5, cap5, rfl, hv5, hb5⟩
      have HB5 := Lib.hid (bl_call HB4.out hb5)
      have HNV5 := Lib.hid (HNV4.out.below hb5)
      have HV5 := Lib.hid hv5
      clear hb5 hv5
      go_wp2_with fail
      go_at_call 9
      rw [shut_is]
      refine (HP3.out _ (tab_on HT.out HB5.out)).mono ?_
      rintro en w6 ⟨g6, cap6, rfl, hv6, hb6⟩
      have HB6 := Lib.hid (bl_call HB5.out hb6)
      have HNV6 := Lib.hid (HNV5.out.below hb6)
      have HV65 := Lib.hid (HV5.out.below hb6)
      have HV6 := Lib.hid hv6
      clear hb6 hv6
      go_wp2_with fail
      go_at_call 10
      refine (sameNodes_self l _ _ _ HV65.out HNV6.out hl1.2 hgood).mono ?_
      rintro en w7 ⟨rfl, n7, hw⟩
      subst hw
      have HB7 := Lib.hid (bl_drewN HB6.out n7)
      have HNV7 := Lib.hid (HNV6.out.below (bl_drewN (Below.refl _ _) n7))
      have HV7 := Lib.hid (HV6.out.below (bl_drewN (Below.refl _ _) n7))
      go_wp2_with fail
      go_at_call 10
      refine (sameNodes_self l _ _ _ HV7.out HNV7.out hl1.2 hgood).mono ?_
      rintro en w8 ⟨rfl, n8, hw⟩
      subst hw
      have HB8 := Lib.hid (bl_drewN HB7.out n8)
      go_wp2
      go_ret
      exact ⟨rfl, by first | exact HB8.out | exact bl_drewN HB6.out _⟩
  · go_wp2_with fail
    go_at_call 8
    refine (exprOkI_any l _ _ HNV2.out hl1 hgood hex).mono ?_
    rintro en w3 ⟨rfl, hb3⟩
    have HB3 := Lib.hid (bl_call HB2.out hb3)
    go_wp2
    go_ret
    exact ⟨rfl, HB3.out⟩
theorem walk (A : Option Addr) (len cap : Nat) (w : World) (hlen : len ≤ maxLen) (hrow : RowOk w.heap.size w A len) (htab : Lib.TabIs Tryd.prog w "internal/strconv.uint64pow10" .u64 Lib.pow10Tab) :
    Calls Tryd.prog 3 #[.slice A len cap] w fun en w' => en = .returned (.bool true) ∧ Below w.heap.size w w' := by
  rcases Nat.lt_or_ge 1048576 len with h | h
  · exact walk_big A len cap w h
  · exact walk_small A len cap w h hlen hrow htab

/-- The tables that these rows list. -/
abbrev laid3 : List (String × DataW Unit) := [("math/bits.deBruijn32tab", Rows.laid_math_bits_deBruijn32tab), ("math/bits.deBruijn64tab", Rows.laid_math_bits_deBruijn64tab), ("internal/strconv.uint64pow10", Rows.laid_internal_strconv_uint64pow10)]

/-- The heap that the program's own start leaves meets the condition. -/
theorem door_met (os : Os) (args : Array Value) : laidMetH Tryd.prog laid3 ((World.doorLaid Tryd.prog 400 os).forCall (fun _ _ => 0) ⟨#[], args, []⟩).memory :=
  laidMetH_of_parts3 (fuel := 8) (laidMet_of_run' 8 (by kernel_rfl) (by kernel_rfl)) (by kernel_rfl) (by kernel_rfl)

/-- The table of powers of ten, from the condition. -/
theorem pow_of_laid {W : World} (h : laidMetH Tryd.prog laid3 W) : Lib.TabIs Tryd.prog W "internal/strconv.uint64pow10" .u64 Lib.pow10Tab := by
  rw [MakeChecks.laidMetH_plain _ _ _ (by kernel_rfl)] at h
  have h2 : laidMet Tryd.prog [("internal/strconv.uint64pow10", Lib.tabData .u64 Lib.pow10Tab)] W := laidMet.tail (laidMet.tail h)
  exact Lib.tabIs_of_head (g := 2) (rest := []) (by kernel_rfl) (t := 119) (by kernel_rfl) (n := 20) Tryd.underlying119 (e := 104) Tryd.underlying104 (by kernel_rfl) (by kernel_rfl) h2

set_option maxRecDepth 100000 in
theorem lifted (os : Os) (started : os.Started) (H : Type) (enc : TypeId × Value → H) :
    ReturnsInHanded {} Tryd.checked os 3 .any (fun w args => (Rows.fnExprAgainSpec.pre enc Tryd.prog Tryd.f3 [] false w args ∧ laidMetH Tryd.prog laid3 w) ∧ sizedMet enc Tryd.prog Tryd.f3 (OpenSpec.ofChange Rows.fnExprAgainSpec) false w args)
      (Rows.fnExprAgainSpec.post enc Tryd.prog Tryd.f3 false true false false) := by
  refine returnsInHanded_of_change_and (C := Tryd.checked) (X := fun w _ => laidMetH Tryd.prog laid3 w) (fun _ _ _ hh h => h.of_heap hh) own started (by kernel_rfl) Tryd.func3
    (ChangeSpec.witness_shaped (enc := enc) (C := Tryd.checked) (os := os) (X := fun w _ => laidMetH Tryd.prog laid3 w) false (World.doorLaid Tryd.prog 400 os) #[.slice none 0 0] 8 rfl (World.shaped_of_RefB (by kernel_rfl) (by kernel_rfl)) (by kernel_rfl) (by kernel_rfl) (by kernel_rfl) (door_met os _)) ?_
  intro W base args ds gs before hval0 hW _ _ hL _
  have hval : ∀ (j : Nat) t v, Tryd.f3.params[j]? = some t → args[j]? = some v → Value.okWide Tryd.prog W .any base t v := hval0
  have hW' := hW
  obtain ⟨p, q, hA0, hV, rfl, hfz, hnd⟩ := hW
  have hA : DataW.TrodAll enc Tryd.prog W 0 (fun _ => true) true Tryd.f3.params.toList args.toList ds p := hA0
  rw [Tryd.params3] at hA hval
  obtain ⟨v0, d0, rfl, rfl, h0⟩ := trodAll_one hA
  obtain ⟨rfl, rfl⟩ := trodVars_none hV
  obtain ⟨a0, len0, cap0, rfl⟩ := okWide_slice Tryd.underlying22 (hval 0 22 v0 rfl rfl)
  have k0 := h0
  have lt0 : ∀ x ∈ p, x.block < W.heap.size := by obtain ⟨m, hm⟩ := k0; exact DataW.trod_lt m _ _ _ hm
  obtain ⟨hl, hr⟩ : len0 ≤ maxLen ∧ RowOk W.heap.size W a0 len0 := by
    obtain ⟨fuel, hf⟩ := h0
    rcases open_ints Tryd.underlying22 Tryd.underlying5 (by kernel_rfl) hf with ⟨hcs, _⟩ | ⟨x, l, c, zs, hcs, _, hl, hm, hz, _, hcell, hwz⟩
    · simp [Value.cells] at hcs
      obtain ⟨rfl, rfl, rfl⟩ := hcs
      exact row_of (zs := []) (.inl ⟨rfl, rfl, rfl, rfl⟩)
    · simp [Value.cells] at hcs
      obtain ⟨rfl, rfl, rfl⟩ := hcs
      exact row_of (.inr ⟨_, rfl, hl, hm, by simpa using hz, hcell, hwz⟩)
  have htab := pow_of_laid hL
  clear hA0 hval0
  refine (walk a0 len0 cap0 W hl hr htab).mono fun e W' ⟨he, bel⟩ => ?_
  subst he
  exact ⟨_, rfl, _, _, _, [], _, [], hW', trodAll_mk1 (shut_bool Tryd.underlying4 _), trodAll_cons_mk (Below.trod laidOut (by kernel_rfl) (of_decide_eq_true (by kernel_rfl)) k0 bel lt0) trodAll_mk0, rfl, bel.frame _, fun h => by cases h⟩

theorem said : Rows.FnExprAgainSaid :=
  OpenClaim.holds_of_wide 3 Tryd.f3 rfl rfl rfl rfl rfl rfl rfl ⟨rfl, rfl, rfl, rfl, rfl⟩ rfl rfl rfl rfl rfl (by kernel_rfl) Tryd.func3 (by kernel_rfl)
    (of_decide_eq_true (by kernel_rfl)) (by unfold Func.isWrapper; first | (rw [if_pos (by decide +kernel)]; kernel_rfl) | (rw [if_neg (by decide +kernel)]; exact ⟨rfl, rfl⟩))
    (fun os started H enc _ => lifted os started H enc)

theorem proved : Rows.FnExprAgainCardSaid :=
  Claim7.holds_tied_plain_at .later [] [.data, .data, .data] true (true, "1841ad23a7aeead5fda796987d640d41234051bc61676f2b0e520ad89c73d433") false
    said (fun _ h => by cases h) (by kernel_rfl) (fun _ h => by cases h) fnExprAgain_row_tie rfl ⟨rfl, rfl⟩ (by kernel_rfl) rfl
    (fun f fn hf hfn => by
      obtain rfl : f = 3 := Option.some.inj ((show Tryd.prog.funcNamed "loop.example/g03320/laws.FnExprAgain" = some 3 by kernel_rfl).symm.trans hf) |>.symm
      obtain rfl : fn = Tryd.f3 := (Option.some.inj (Tryd.func3.symm.trans hfn)).symm
      exact ⟨by kernel_rfl, fun j t ht => by
        rw [Tryd.params3] at ht
        have hm : t ∈ [22] := by simpa using Array.mem_of_getElem? ht
        have hall : ([22].all fun u => !Tryd.prog.wantsStandIn u) = true := by kernel_rfl
        exact (show Tryd.prog.wantsStandIn t = false by simpa using List.all_eq_true.1 hall t hm)⟩)
    (by kernel_rfl)
#print axioms proved
end Go.Proofs.YtjgjgjkffoagoaaDoor.fnExprAgain
