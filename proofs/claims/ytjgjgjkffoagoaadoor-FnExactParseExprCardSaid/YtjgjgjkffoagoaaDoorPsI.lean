/- The program's ParseSingle at a text that begins with '+' and a figure: the single of which it is the text, or none. Condition: the table of powers of ten is laid. -/
import Derived.Test.YtjgjgjkffoagoaaDoorPsP
namespace Go.Proofs.YtjgjgjkffoagoaaDoor
open Go.RowKit
open Go.Lib (itoa decDigits nDigits nDigits_le20 itoa_length_le)
set_option maxRecDepth 100000
set_option maxHeartbeats 1000000
set_option linter.unusedVariables false
set_option linter.unusedSimpArgs false

def PsEnd (t : List UInt8) (w : World) (en : Ending) (w' : World) : Prop := ∃ x ok, en = .returned (.tuple #[.float .f32 x, .bool ok]) ∧ PsR t x ok ∧ Below w.heap.size w w'
theorem plus_list : (⟨#[43]⟩ : ByteArray).toList = [43] := by rw [ByteArray.toList_eq]
theorem ps_zero : PsR [48] 0 true := ⟨fun _ => ⟨⟨by decide, by decide, by decide⟩, .inl ⟨rfl, rfl⟩⟩, fun h => by cases h⟩
theorem tl_of (l : List UInt8) (c : UInt8) : (⟨(c :: l).toArray⟩ : ByteArray).extract 1 (l.length + 1) = ⟨l.toArray⟩ := by
  have := tail_of (c :: l) 1
  simpa using this
theorem hd_of (l : List UInt8) (c : UInt8) : (⟨(c :: l).toArray⟩ : ByteArray).extract 0 1 = ⟨#[c]⟩ := by
  have := head_of (c :: l) 1
  simpa using this
theorem parseSingleI (t : List UInt8) (ht : t.length ≤ 1000000) (c0 : UInt8) (hc0 : t.head? = some c0) (hc1 : 48 ≤ c0.toNat ∧ c0.toNat ≤ 57) (w : World) (htab : Lib.TabIs Tryd.prog w "internal/strconv.uint64pow10" .u64 Lib.pow10Tab) :
    Calls Tryd.prog 84 #[tx (43 :: t)] w (PsEnd t w) := by
  have hpos : 1 ≤ t.length := by cases t with
    | nil => cases hc0
    | cons _ _ => simp
  have HT := Lib.hid htab
  clear htab
  have n1 : ((43 :: t) == [110, 97, 110]) = false := beq_eq_false_iff_ne.2 (fun h => by cases h)
  have n2 : (t == [105, 110, 102]) = false := beq_eq_false_iff_ne.2 (fun h => by
    rw [h] at hc0
    have := Option.some.inj hc0
    rw [← this] at hc1
    have h2 : (105 : UInt8).toNat = 105 := rfl
    omega)
  have f1 : (t.length + 1 < 1) = False := eq_false (by omega)
  have f2 : decide ((t.length : Int) + 1 < 2) = false := decide_eq_false (by omega)
  by_cases h48 : t = [48]
  · have n3 : (t == [48]) = true := beq_iff_eq.2 h48
    have H48 := Lib.hid h48
    clear h48 hc0
    go_enter Tryd.func84, Tryd.ntmps84
    go_wp2_with fail
    go_quiet (fail)
    simp only [tl_of, hd_of]
    go_wp2_with fail
    go_at_call 102
    refine (signedI_any ⟨#[43]⟩ 0 _).mono ?_
    rintro en w1 ⟨rfl, hw⟩
    have hw := hw.symm
    subst hw
    go_wp2
    exact bodyPost_ret (v := .tuple #[.float .f32 0, .bool true]) (by simp (maxDischargeDepth := 6) [results, Tryd.results84, go_sem]; exact ⟨rfl, rfl⟩) rfl ⟨0, true, rfl, by rw [H48.out]; exact ps_zero, bl_drewN (Below.refl _ _) _⟩
  · have n3 : (t == [48]) = false := beq_eq_false_iff_ne.2 h48
    have H48 := Lib.hid h48
    clear h48 hc0
    obtain ⟨a, b, c, hcut⟩ : ∃ a b c, cutP t = (a, b, c) := ⟨_, _, _, rfl⟩
    obtain ⟨q, hq⟩ : ∃ q, Lib.hasPrefix b [45] = q := ⟨_, rfl⟩
    have hal : a.length ≤ 1000000 ∧ b.length ≤ 1000000 := by
      unfold cutP at hcut
      split at hcut
      · have h1 := Prod.mk.inj hcut
        have h2 := Prod.mk.inj h1.2
        rw [← h1.1, ← h2.1]
        simp; omega
      · have h1 := Prod.mk.inj hcut
        have h2 := Prod.mk.inj h1.2
        rw [← h1.1, ← h2.1]
        simp; omega
    have hbq : q = true → 1 ≤ b.length := fun h => by
      rw [h] at hq
      cases b with
      | nil => cases hq
      | cons _ _ => simp
    have HCUT := Lib.hid hcut
    have HQ := Lib.hid hq
    clear hcut
    go_enter Tryd.func84, Tryd.ntmps84
    go_wp2_with fail
    go_quiet (fail)
    simp only [tl_of, hd_of]
    go_wp2_with fail
    go_at_call 104
    refine (Cut_p t ht a b c HCUT.out _).mono ?_
    rintro en w1 ⟨rfl, n1', hw⟩
    subst hw
    go_wp2_with fail
    go_at_call 105
    refine (impl_ParseUint a (by omega) _ (tab_on HT.out (bl_drewN (Below.refl _ _) _))).mono ?_
    rintro en w2 ⟨m, one, rfl, hm, hb2⟩
    have HB2 := Lib.hid (bl_call (bl_drewN (Below.refl _ w) _) hb2)
    have HM := Lib.hid hm
    have hm1 := hm.range
    clear hm hb2
    clear hq
    cases q
    · have HBX := HB2
      go_wp2_with (go_at_call 82; (with_reducible refine (Tryd.strings_HasPrefix _ _ _).mono ?_); rintro e w9 ⟨rfl, hw9⟩; have hw9x := hw9.symm; clear hw9; subst hw9x; rw [show Lib.hasPrefix (⟨b.toArray⟩ : ByteArray).data.toList [45] = false from HQ.out])
      go_at_call 105
      refine (impl_ParseUint b (by omega) _ (tab_on HT.out HBX.out)).mono ?_
      rintro en w3 ⟨e, two, rfl, hm3, hb3⟩
      have HB3 := Lib.hid (bl_call HBX.out hb3)
      have HM3 := Lib.hid hm3
      have hm2 := hm3.range
      clear hm3 hb3
      have hNO := Lib.hid (fun h => ps_no (q := false) (b' := b) (s := e) (by simp) H48.out HCUT.out HQ.out (by simp) HM.out HM3.out h)
      have hLA := Lib.hid (fun l x hx hl => ps_last (l := l) (x := x) (q := false) (b' := b) (s := e) (by simp) H48.out HCUT.out HQ.out (by simp) HM.out HM3.out hx hl)
      have hwr : wrap64 (e) = e := w64 _ (by omega)
      cases c
      · have hre := hNO.out (.inl rfl)
        clear hNO hLA
        go_wp2
        exact bodyPost_ret (v := .tuple #[.float .f32 0, .bool false]) (by simp (maxDischargeDepth := 6) [results, Tryd.results84, go_sem]) rfl ⟨0, false, rfl, hre, HB3.out⟩
      cases one
      · have hre := hNO.out (.inr (.inl rfl))
        clear hNO hLA
        go_wp2
        exact bodyPost_ret (v := .tuple #[.float .f32 0, .bool false]) (by simp (maxDischargeDepth := 6) [results, Tryd.results84, go_sem]) rfl ⟨0, false, rfl, hre, HB3.out⟩
      cases two
      · have hre := hNO.out (.inr (.inr (.inl rfl)))
        clear hNO hLA
        go_wp2
        exact bodyPost_ret (v := .tuple #[.float .f32 0, .bool false]) (by simp (maxDischargeDepth := 6) [results, Tryd.results84, go_sem]) rfl ⟨0, false, rfl, hre, HB3.out⟩
      obtain ⟨x, made, hx⟩ : ∃ x made, makeF [43] m (e) = (x, made) := ⟨_, _, rfl⟩
      have HX := Lib.hid hx
      clear hx
      go_wp2_with fail
      go_at_call 106
      refine (makeI_any ⟨#[43]⟩ m (e) _).mono ?_
      rintro en w4 ⟨he4, n4, hw4⟩
      rw [show makeF (⟨#[43]⟩ : ByteArray).toList m (e) = (x, made) from by rw [plus_list]; exact HX.out] at he4
      subst he4 hw4
      cases made
      · go_wp2
        exact bodyPost_ret (v := .tuple #[.float .f32 0, .bool false]) (by simp (maxDischargeDepth := 6) [results, Tryd.results84, go_sem]) rfl ⟨0, false, rfl, hNO.out (.inr (.inr (.inr (by show (makeF [43] m (e)).2 = false; rw [HX.out])))), bl_drewN HB3.out _⟩
      · go_wp2_with fail
        go_at_call 37
        refine (fmtSingle_any x _ (makeF_GS HX.out) (tab_on HT.out (bl_drewN HB3.out _))).mono ?_
        rintro en w5 ⟨l, rfl, hl, _, hb5⟩
        have hB5 := bl_call (bl_drewN HB3.out n4) hb5
        obtain ⟨hy, hn⟩ := hLA.out l x HX.out hl
        by_cases hlt : l = t
        · have hyes := hy hlt
          have c9 : ((43 :: l) == (43 :: t)) = true := beq_iff_eq.2 (by rw [hlt])
          have c8 : (l == t) = true := beq_iff_eq.2 hlt
          clear hlt hy hn hl
          go_wp2
          exact bodyPost_ret (v := .tuple #[.float .f32 x, .bool true]) (by simp (maxDischargeDepth := 6) [results, Tryd.results84, go_sem]) rfl ⟨x, true, rfl, hyes, hB5⟩
        · have hno := hn hlt
          have c9 : ((43 :: l) == (43 :: t)) = false := beq_eq_false_iff_ne.2 (fun h => hlt (List.cons.inj h).2)
          have c8 : (l == t) = false := beq_eq_false_iff_ne.2 hlt
          clear hlt hy hn hl
          go_wp2
          exact bodyPost_ret (v := .tuple #[.float .f32 0, .bool false]) (by simp (maxDischargeDepth := 6) [results, Tryd.results84, go_sem]) rfl ⟨0, false, rfl, hno, hB5⟩
    · have f3 : (b.length < 1) = False := eq_false (by have := hbq rfl; omega)
      have f6 : (1 : Int) ≤ (b.length : Int) := by have := hbq rfl; omega
      go_wp2_with (go_at_call 82; (with_reducible refine (Tryd.strings_HasPrefix _ _ _).mono ?_); rintro e w9 ⟨rfl, hw9⟩; have hw9x := hw9.symm; clear hw9; subst hw9x; rw [show Lib.hasPrefix (⟨b.toArray⟩ : ByteArray).data.toList [45] = true from HQ.out])
      go_region
      have HBX := Lib.hid (Below.drew HB2.out)
      go_wp2_with fail
      go_at_call 105
      rw [tail_of]
      refine (impl_ParseUint (b.drop 1) (by simp; omega) _ (tab_on HT.out HBX.out)).mono ?_
      rintro en w3 ⟨e, two, rfl, hm3, hb3⟩
      have HB3 := Lib.hid (bl_call HBX.out hb3)
      have HM3 := Lib.hid hm3
      have hm2 := hm3.range
      clear hm3 hb3
      have hNO := Lib.hid (fun h => ps_no (q := true) (b' := b.drop 1) (s := -e) (by simp) H48.out HCUT.out HQ.out (by simp) HM.out HM3.out h)
      have hLA := Lib.hid (fun l x hx hl => ps_last (l := l) (x := x) (q := true) (b' := b.drop 1) (s := -e) (by simp) H48.out HCUT.out HQ.out (by simp) HM.out HM3.out hx hl)
      have hwr : wrap64 (-e) = -e := w64 _ (by omega)
      cases c
      · have hre := hNO.out (.inl rfl)
        clear hNO hLA
        go_wp2
        exact bodyPost_ret (v := .tuple #[.float .f32 0, .bool false]) (by simp (maxDischargeDepth := 6) [results, Tryd.results84, go_sem]) rfl ⟨0, false, rfl, hre, HB3.out⟩
      cases one
      · have hre := hNO.out (.inr (.inl rfl))
        clear hNO hLA
        go_wp2
        exact bodyPost_ret (v := .tuple #[.float .f32 0, .bool false]) (by simp (maxDischargeDepth := 6) [results, Tryd.results84, go_sem]) rfl ⟨0, false, rfl, hre, HB3.out⟩
      cases two
      · have hre := hNO.out (.inr (.inr (.inl rfl)))
        clear hNO hLA
        go_wp2
        exact bodyPost_ret (v := .tuple #[.float .f32 0, .bool false]) (by simp (maxDischargeDepth := 6) [results, Tryd.results84, go_sem]) rfl ⟨0, false, rfl, hre, HB3.out⟩
      obtain ⟨x, made, hx⟩ : ∃ x made, makeF [43] m (-e) = (x, made) := ⟨_, _, rfl⟩
      have HX := Lib.hid hx
      clear hx
      go_wp2_with fail
      go_at_call 106
      refine (makeI_any ⟨#[43]⟩ m (-e) _).mono ?_
      rintro en w4 ⟨he4, n4, hw4⟩
      rw [show makeF (⟨#[43]⟩ : ByteArray).toList m (-e) = (x, made) from by rw [plus_list]; exact HX.out] at he4
      subst he4 hw4
      cases made
      · go_wp2
        exact bodyPost_ret (v := .tuple #[.float .f32 0, .bool false]) (by simp (maxDischargeDepth := 6) [results, Tryd.results84, go_sem]) rfl ⟨0, false, rfl, hNO.out (.inr (.inr (.inr (by show (makeF [43] m (-e)).2 = false; rw [HX.out])))), bl_drewN HB3.out _⟩
      · go_wp2_with fail
        go_at_call 37
        refine (fmtSingle_any x _ (makeF_GS HX.out) (tab_on HT.out (bl_drewN HB3.out _))).mono ?_
        rintro en w5 ⟨l, rfl, hl, _, hb5⟩
        have hB5 := bl_call (bl_drewN HB3.out n4) hb5
        obtain ⟨hy, hn⟩ := hLA.out l x HX.out hl
        by_cases hlt : l = t
        · have hyes := hy hlt
          have c9 : ((43 :: l) == (43 :: t)) = true := beq_iff_eq.2 (by rw [hlt])
          have c8 : (l == t) = true := beq_iff_eq.2 hlt
          clear hlt hy hn hl
          go_wp2
          exact bodyPost_ret (v := .tuple #[.float .f32 x, .bool true]) (by simp (maxDischargeDepth := 6) [results, Tryd.results84, go_sem]) rfl ⟨x, true, rfl, hyes, hB5⟩
        · have hno := hn hlt
          have c9 : ((43 :: l) == (43 :: t)) = false := beq_eq_false_iff_ne.2 (fun h => hlt (List.cons.inj h).2)
          have c8 : (l == t) = false := beq_eq_false_iff_ne.2 hlt
          clear hlt hy hn hl
          go_wp2
          exact bodyPost_ret (v := .tuple #[.float .f32 0, .bool false]) (by simp (maxDischargeDepth := 6) [results, Tryd.results84, go_sem]) rfl ⟨0, false, rfl, hno, hB5⟩
end Go.Proofs.YtjgjgjkffoagoaaDoor
