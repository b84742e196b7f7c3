/- The reference's ParseSingle at a text that begins with '+' and a figure: the single of which it is the text, or none. No condition. -/
import Derived.Test.YtjgjgjkffoagoaaDoorPsI
import Derived.Test.YtjgjgjkffoagoaaDoorSpS
namespace Go.Proofs.YtjgjgjkffoagoaaDoor
open Go.RowKit
open Go.Lib (itoa decDigits nDigits nDigits_le20 itoa_length_le)
set_option maxRecDepth 100000
set_option maxHeartbeats 1000000
set_option linter.unusedVariables false
set_option linter.unusedSimpArgs false

theorem TxR.short {y : Nat} {t : List UInt8} (h : TxR y t) : t.length ≤ 19 := by
  rcases h with ⟨_, rfl⟩ | ⟨m, e, _, hs, rfl⟩
  · decide
  · have h1 := len_itoa (m : Int) (by omega) (by have := hs.2.1; omega)
    have h2 := len_itoa ((e.natAbs : Nat) : Int) (by omega) (by have := hs.2.2.1; have := hs.2.2.2.1; omega)
    have h3 : (itoa e).length ≤ 5 := by
      have ha := itoa_abs e
      have h4 : (decDigits e.natAbs).length ≤ 4 := by
        rw [Lib.decDigits_length]
        have := hs.2.2.1
        have := hs.2.2.2.1
        by_cases a1 : e.natAbs < 10
        · rw [Lib.nDigits_small a1]; omega
        rw [Lib.nDigits_big a1]
        by_cases a2 : e.natAbs / 10 < 10
        · rw [Lib.nDigits_small a2]; omega
        rw [Lib.nDigits_big a2, Lib.nDigits_small (by omega)]; omega
      rw [ha, List.length_append]
      split <;> simp <;> omega
    have h5 : (itoa (m : Int)).length ≤ 10 := h1.2
    simp only [List.length_append, List.length_cons]
    omega
theorem ps_long {t : List UInt8} (h : 19 < t.length) : PsR t 0 false := ⟨fun h => (by cases h), fun _ y hy ht => by have := ht.short; omega⟩
theorem ps_none {t : List UInt8} (h48 : t ≠ [48]) (h : ∀ a b, cutP t = (a, b, true) → b = []) : PsR t 0 false := by
  refine ⟨fun h => (by cases h), fun _ y hy ht => ?_⟩
  obtain ⟨m, e, _, h2⟩ := ht.parts h48
  have h3 := h _ _ h2
  have h4 := itoa_abs e
  rw [h3] at h4
  have h5 := congrArg List.length h4
  rw [List.length_append] at h5
  have := dec_pos e.natAbs
  simp at h5
  omega
theorem indexByte_no : ∀ (l : List UInt8) (c : UInt8), (∀ x ∈ l, x ≠ c) → Lib.indexByte l c = -1
  | [], c, _ => rfl
  | x :: l, c, h => by
    have h1 : (x == c) = false := beq_eq_false_iff_ne.2 (h x (by simp))
    have ih := indexByte_no l c (fun y hy => h y (by simp [hy]))
    show (if x == c then 0 else if Lib.indexByte l c == -1 then -1 else Lib.indexByte l c + 1) = _
    rw [h1, ih]; rfl
/-- The loop has found a 'p', or there is none. -/
theorem cut_found {t : List UInt8} {k : Nat} (hk : k < t.length) (h : ∀ j, j < k → ∀ x, t[j]? = some x → x ≠ 112) (hp : t[k] = 112) : cutP t = (t.take k, t.drop (k + 1), true) := by
  have h1 : t = t.take k ++ 112 :: t.drop (k + 1) := by
    rw [← hp, List.getElem_cons_drop, List.take_append_drop]
  have h2 : ∀ x ∈ t.take k, x ≠ 112 := fun x hx => by
    obtain ⟨j, hj⟩ := List.getElem?_of_mem hx
    have hjk : j < k := by
      have := (List.getElem?_eq_some_iff.1 hj).1
      rw [List.length_take] at this
      omega
    rw [List.getElem?_take_of_lt hjk] at hj
    exact h j hjk x hj
  have h3 := cutP_at (t.take k) (t.drop (k + 1)) h2
  rw [← h1] at h3
  exact h3
theorem cut_never {t : List UInt8} (h : ∀ j, j < t.length → ∀ x, t[j]? = some x → x ≠ 112) : cutP t = (t, [], false) := by
  unfold cutP
  rw [indexByte_no t 112 (fun x hx => by
    obtain ⟨j, hj⟩ := List.getElem?_of_mem hx
    exact h j (List.getElem?_eq_some_iff.1 hj).1 x hj), if_neg (by decide)]
theorem mid_s (t : List UInt8) (c : UInt8) (k : Nat) : (⟨(c :: t).toArray⟩ : ByteArray).extract 1 (k + 1) = ⟨(t.take k).toArray⟩ := by
  rw [Lib.extract_eq]; simp
theorem end_s (t : List UInt8) (c : UInt8) (k : Nat) : (⟨(c :: t).toArray⟩ : ByteArray).extract (k + 2) (t.length + 1) = ⟨(t.drop (k + 1)).toArray⟩ := by
  have := tail_of (c :: t) (k + 2)
  simpa using this
/-- The loop's relation. -/
def PpRel (t : List UInt8) (w : World) (p : Value) (wr : World) : Prop := ∃ k : Nat, p = .int .i64 ((k : Int) + 1) ∧ k ≤ t.length ∧ (∀ j, j < k → ∀ x, t[j]? = some x → x ≠ 112) ∧ wr = w
theorem parseSingleS (t : List UInt8) (ht : t.length ≤ 1000000) (c0 : UInt8) (hc0 : t.head? = some c0) (hc1 : 48 ≤ c0.toNat ∧ c0.toNat ≤ 57) (w : World) :
    Calls Tryd.prog 118 #[tx (43 :: t)] w (PsEnd t w) := by
  have hpos : 1 ≤ t.length := by cases t with
    | nil => cases hc0
    | cons _ _ => simp
  have n1 : ((43 :: t) == [110, 97, 110]) = false := beq_eq_false_iff_ne.2 (fun h => by cases h)
  have n2 : (t == [105, 110, 102]) = false := beq_eq_false_iff_ne.2 (fun h => by
    rw [h] at hc0
    have := Option.some.inj hc0
    rw [← this] at hc1
    have h2 : (105 : UInt8).toNat = 105 := rfl
    omega)
  have f1 : (t.length + 1 < 1) = False := eq_false (by omega)
  have f2 : decide ((t.length : Int) + 1 < 2) = false := decide_eq_false (by omega)
  by_cases h20 : 19 < t.length
  · have f4 : decide ((20 : Int) < (t.length : Int) + 1) = true := decide_eq_true (by omega)
    have HE : PsEnd t w (.returned (.tuple #[.float .f32 0, .bool false])) w := ⟨0, false, rfl, ps_long h20, Below.refl _ _⟩
    clear h20 hc0
    go_enter Tryd.func118, Tryd.ntmps118
    go_wp2_with fail
    exact bodyPost_ret (v := .tuple #[.float .f32 0, .bool false]) (by simp (maxDischargeDepth := 6) [results, Tryd.results118, go_sem]) rfl HE
  have f4 : decide ((20 : Int) < (t.length : Int) + 1) = false := decide_eq_false (by omega)
  by_cases h48 : t = [48]
  · have n3 : (t == [48]) = true := beq_iff_eq.2 h48
    have H48 := Lib.hid h48
    have e0 : (⟨(43 :: t).toArray⟩ : ByteArray).extract 0 1 = ⟨#[43]⟩ := hd_of t 43
    have e1 : (⟨(43 :: t).toArray⟩ : ByteArray).extract 1 (t.length + 1) = ⟨t.toArray⟩ := tl_of t 43
    have e2 : ((⟨t.toArray⟩ : ByteArray).toList == [105, 110, 102]) = false := by rw [ByteArray.toList_mk]; exact n2
    have e3 : ((⟨t.toArray⟩ : ByteArray).toList == [48]) = true := by rw [ByteArray.toList_mk]; exact n3
    clear h48 hc0 h20
    go_enter Tryd.func118, Tryd.ntmps118
    go_wp2_with fail
    go_at_call 72
    refine (signedS_any ⟨#[43]⟩ 0 _).mono ?_
    rintro en w1 ⟨rfl, hw⟩
    have hw := hw.symm
    subst hw
    go_wp2
    exact bodyPost_ret (v := .tuple #[.float .f32 0, .bool true]) (by simp (maxDischargeDepth := 6) [results, Tryd.results118, go_sem]; exact ⟨rfl, rfl⟩) rfl ⟨0, true, rfl, by rw [H48.out]; exact ps_zero, Below.refl _ _⟩
  · have n3 : (t == [48]) = false := beq_eq_false_iff_ne.2 h48
    have H48 := Lib.hid h48
    have e0 : (⟨(43 :: t).toArray⟩ : ByteArray).extract 0 1 = ⟨#[43]⟩ := hd_of t 43
    have e1 : (⟨(43 :: t).toArray⟩ : ByteArray).extract 1 (t.length + 1) = ⟨t.toArray⟩ := tl_of t 43
    have e2 : ((⟨t.toArray⟩ : ByteArray).toList == [105, 110, 102]) = false := by rw [ByteArray.toList_mk]; exact n2
    have e3 : ((⟨t.toArray⟩ : ByteArray).toList == [48]) = false := by rw [ByteArray.toList_mk]; exact n3
    clear h48 hc0 h20
    go_enter Tryd.func118, Tryd.ntmps118
    go_wp2_with fail
    go_loopw [10] (fun p wr => PpRel t w p wr) (fun p _ => t.length + 1 - (RowKit.intOf p).toNat)
    case atStart => exact ⟨0, rfl, Nat.zero_le _, fun j hj => absurd hj (Nat.not_lt_zero _), rfl⟩
    case round =>
      obtain ⟨k, rfl, hk, hno, hwr⟩ := hrel
      have hwr := hwr.symm
      subst hwr
      by_cases hkl : k < t.length
      · have c1 : decide ((k : Int) + 1 < (t.length : Int) + 1) = true := decide_eq_true (by omega)
        have hsz : k + 1 < (⟨(43 :: t).toArray⟩ : ByteArray).size := by simpa [ByteArray.size] using hkl
        obtain ⟨x, hx⟩ : ∃ x : Nat, ((⟨(43 :: t).toArray⟩ : ByteArray)[k + 1]'hsz).toNat = x := ⟨_, rfl⟩
        have hxs : t[k].toNat = x := by rw [← hx]; rfl
        by_cases h112 : x = 112
        · have c2 : ((x : Int) != 112) = false := by rw [h112]; rfl
          have c2' : ((x : Int) == 112) = true := by rw [h112]; rfl
          have HCUT := Lib.hid (cut_found hkl hno (UInt8.toNat_inj.1 (by rw [hxs, h112]; rfl)))
          clear hno h112
          by_cases hend : t.length ≤ k + 1
          · have c3 : decide ((t.length : Int) + 1 ≤ (k : Int) + 1 + 1) = true := decide_eq_true (by omega)
            have c3a : decide ((t.length : Int) ≤ (k : Int) + 1) = true := decide_eq_true (by omega)
            have c3b : decide (t.length ≤ k + 1) = true := decide_eq_true (by omega)
            have c3c : decide ((t.length : Int) + 1 ≤ (k : Int) + 2) = true := decide_eq_true (by omega)
            have c3d : decide (t.length + 1 ≤ k + 2) = true := decide_eq_true (by omega)
            have HE : PsEnd t w (.returned (.tuple #[.float .f32 0, .bool false])) w := ⟨0, false, rfl, ps_none H48.out (fun a b h => by
              rw [HCUT.out] at h
              have h1 := (Prod.mk.inj (Prod.mk.inj h).2).1
              rw [← h1]; exact List.drop_eq_nil_of_le hend), Below.refl _ _⟩
            clear hend
            go_wp2
            exact bodyPost_ret (v := .tuple #[.float .f32 0, .bool false]) (by simp (maxDischargeDepth := 6) [results, Tryd.results118, go_sem]) rfl HE
          · have c3 : decide ((t.length : Int) + 1 ≤ (k : Int) + 1 + 1) = false := decide_eq_false (by omega)
            have c3a : decide ((t.length : Int) ≤ (k : Int) + 1) = false := decide_eq_false (by omega)
            have c3b : decide (t.length ≤ k + 1) = false := decide_eq_false (by omega)
            have c3c : decide ((t.length : Int) + 1 ≤ (k : Int) + 2) = false := decide_eq_false (by omega)
            have c3d : decide (t.length + 1 ≤ k + 2) = false := decide_eq_false (by omega)
            have f5 : (t.length + 1 < k + 1) = False := eq_false (by omega)
            have f6 : (t.length + 1 < k + 1 + 1) = False := eq_false (by omega)
            have f7 : (t.length + 1 < k + 2) = False := eq_false (by omega)
            have f8 : (t.length < k + 1) = False := eq_false (by omega)
            have f9 : (t.length < k) = False := eq_false (by omega)
            obtain ⟨cb, b2, hb2⟩ : ∃ cb b2, t.drop (k + 1) = cb :: b2 := List.exists_cons_of_length_pos (by rw [List.length_drop]; omega)
            have HB2 := Lib.hid hb2
            have hb2l : b2.length ≤ 1000000 := by
              have := congrArg List.length hb2
              rw [List.length_drop] at this
              simp at this; omega
            have eX : (⟨(43 :: t).toArray⟩ : ByteArray).extract (k + 1 + 1) (t.length + 1) = ⟨(cb :: b2).toArray⟩ := by rw [← hb2]; exact end_s t 43 k
            have eY : (⟨(cb :: b2).toArray⟩ : ByteArray).extract 1 (b2.length + 1) = ⟨b2.toArray⟩ := tl_of b2 cb
            rw [hb2] at HCUT
            clear hend hb2
            go_wp2_with fail
            go_at_call 122
            rw [mid_s]
            refine (spec_ParseUint (t.take k) (by rw [List.length_take]; omega) _).mono ?_
            rintro en w2 ⟨m, one, rfl, hm, hbb2⟩
            have HBB2 := Lib.hid hbb2
            have HM := Lib.hid hm
            have hm1 := hm.range
            clear hm hbb2
            obtain ⟨x2, hx2⟩ : ∃ x2 : Nat, cb.toNat = x2 := ⟨_, rfl⟩
            have hsz2 : 0 < (⟨(cb :: b2).toArray⟩ : ByteArray).size := by simp [ByteArray.size]
            by_cases h45 : x2 = 45
            · have HQ := Lib.hid (show Lib.hasPrefix (cb :: b2) [45] = true by
                have : cb = 45 := UInt8.toNat_inj.1 (by rw [hx2, h45]; rfl)
                rw [this]; rfl)
              have c4 : ((x2 : Int) == 45) = true := by rw [h45]; rfl
              have c4b : ((cb.toNat : Int) == 45) = true := by rw [hx2]; exact c4
              have c4d : ((((⟨(cb :: b2).toArray⟩ : ByteArray)[0]'hsz2).toNat : Int) == 45) = true := c4b
              have c4c : (cb.toNat == 45) = true := by rw [hx2, h45]; rfl
              clear h45
              go_wp2_with fail
              go_at_call 122
              refine (spec_ParseUint (b2) (by first | omega | (simp; omega)) _).mono ?_
              rintro en w3 ⟨e, two, rfl, hm3, hb3⟩
              have HB3 := Lib.hid (bl_call HBB2.out hb3)
              have HM3 := Lib.hid hm3
              have hm2 := hm3.range
              clear hm3 hb3
              have hNO := Lib.hid (fun h => ps_no (q := true) (b' := b2) (s := -e) (by simp) H48.out HCUT.out HQ.out (by simp) HM.out HM3.out h)
              have hLA := Lib.hid (fun l x hx hl => ps_last (l := l) (x := x) (q := true) (b' := b2) (s := -e) (by simp) H48.out HCUT.out HQ.out (by simp) HM.out HM3.out hx hl)
              have hwr : wrap64 (-e) = -e := w64 _ (by omega)
              cases one
              · have hre := hNO.out (.inr (.inl rfl))
                clear hNO hLA
                go_wp2
                exact bodyPost_ret (v := .tuple #[.float .f32 0, .bool false]) (by simp (maxDischargeDepth := 6) [results, Tryd.results118, go_sem]) rfl ⟨0, false, rfl, hre, HB3.out⟩
              cases two
              · have hre := hNO.out (.inr (.inr (.inl rfl)))
                clear hNO hLA
                go_wp2
                exact bodyPost_ret (v := .tuple #[.float .f32 0, .bool false]) (by simp (maxDischargeDepth := 6) [results, Tryd.results118, go_sem]) rfl ⟨0, false, rfl, hre, HB3.out⟩
              obtain ⟨x9, made, hx9⟩ : ∃ x made, makeF [43] m (-e) = (x, made) := ⟨_, _, rfl⟩
              have HX := Lib.hid hx9
              clear hx9
              go_wp2_with fail
              go_at_call 53
              refine (makeS_any ⟨#[43]⟩ m (-e) _).mono ?_
              rintro en w4 ⟨he4, n4, hw4⟩
              rw [show makeF (⟨#[43]⟩ : ByteArray).toList m (-e) = (x9, made) from by rw [plus_list]; exact HX.out] at he4
              subst he4 hw4
              cases made
              · go_wp2
                exact bodyPost_ret (v := .tuple #[.float .f32 0, .bool false]) (by simp (maxDischargeDepth := 6) [results, Tryd.results118, go_sem]) rfl ⟨0, false, rfl, hNO.out (.inr (.inr (.inr (by show (makeF [43] m (-e)).2 = false; rw [HX.out])))), bl_drewN HB3.out _⟩
              · go_wp2_with fail
                go_at_call 123
                refine (fmtSingleS_any x9 _ (makeF_GS HX.out)).mono ?_
                rintro en w5 ⟨l, rfl, hl, _, hb5⟩
                have hB5 := bl_call (bl_drewN HB3.out n4) hb5
                obtain ⟨hy, hn⟩ := hLA.out l x9 HX.out hl
                by_cases hlt : l = t
                · have hyes := hy hlt
                  have c9 : ((43 :: l) == (43 :: t)) = true := beq_iff_eq.2 (by rw [hlt])
                  have c8 : (l == t) = true := beq_iff_eq.2 hlt
                  clear hlt hy hn hl
                  go_wp2
                  exact bodyPost_ret (v := .tuple #[.float .f32 x9, .bool true]) (by simp (maxDischargeDepth := 6) [results, Tryd.results118, go_sem]) rfl ⟨x9, true, rfl, hyes, hB5⟩
                · have hno := hn hlt
                  have c9 : ((43 :: l) == (43 :: t)) = false := beq_eq_false_iff_ne.2 (fun h => hlt (List.cons.inj h).2)
                  have c8 : (l == t) = false := beq_eq_false_iff_ne.2 hlt
                  clear hlt hy hn hl
                  go_wp2
                  exact bodyPost_ret (v := .tuple #[.float .f32 0, .bool false]) (by simp (maxDischargeDepth := 6) [results, Tryd.results118, go_sem]) rfl ⟨0, false, rfl, hno, hB5⟩
            · have HQ := Lib.hid (show Lib.hasPrefix (cb :: b2) [45] = false by
                show (45 == cb && List.isPrefixOf [] b2) = false
                have : (45 == cb) = false := beq_eq_false_iff_ne.2 (fun h => h45 (by rw [← hx2, ← h]; rfl))
                rw [this]; rfl)
              have c4 : ((x2 : Int) == 45) = false := beq_eq_false_iff_ne.2 (by omega)
              have c4b : ((cb.toNat : Int) == 45) = false := by rw [hx2]; exact c4
              have c4d : ((((⟨(cb :: b2).toArray⟩ : ByteArray)[0]'hsz2).toNat : Int) == 45) = false := c4b
              have c4c : (cb.toNat == 45) = false := beq_eq_false_iff_ne.2 (by omega)
              clear h45
              go_wp2_with fail
              go_at_call 122
              refine (spec_ParseUint (cb :: b2) (by first | omega | (simp; omega)) _).mono ?_
              rintro en w3 ⟨e, two, rfl, hm3, hb3⟩
              have HB3 := Lib.hid (bl_call HBB2.out hb3)
              have HM3 := Lib.hid hm3
              have hm2 := hm3.range
              clear hm3 hb3
              have hNO := Lib.hid (fun h => ps_no (q := false) (b' := cb :: b2) (s := e) (by simp) H48.out HCUT.out HQ.out (by simp) HM.out HM3.out h)
              have hLA := Lib.hid (fun l x hx hl => ps_last (l := l) (x := x) (q := false) (b' := cb :: b2) (s := e) (by simp) H48.out HCUT.out HQ.out (by simp) HM.out HM3.out hx hl)
              have hwr : wrap64 (e) = e := w64 _ (by omega)
              cases one
              · have hre := hNO.out (.inr (.inl rfl))
                clear hNO hLA
                go_wp2
                exact bodyPost_ret (v := .tuple #[.float .f32 0, .bool false]) (by simp (maxDischargeDepth := 6) [results, Tryd.results118, go_sem]) rfl ⟨0, false, rfl, hre, HB3.out⟩
              cases two
              · have hre := hNO.out (.inr (.inr (.inl rfl)))
                clear hNO hLA
                go_wp2
                exact bodyPost_ret (v := .tuple #[.float .f32 0, .bool false]) (by simp (maxDischargeDepth := 6) [results, Tryd.results118, go_sem]) rfl ⟨0, false, rfl, hre, HB3.out⟩
              obtain ⟨x9, made, hx9⟩ : ∃ x made, makeF [43] m (e) = (x, made) := ⟨_, _, rfl⟩
              have HX := Lib.hid hx9
              clear hx9
              go_wp2_with fail
              go_at_call 53
              refine (makeS_any ⟨#[43]⟩ m (e) _).mono ?_
              rintro en w4 ⟨he4, n4, hw4⟩
              rw [show makeF (⟨#[43]⟩ : ByteArray).toList m (e) = (x9, made) from by rw [plus_list]; exact HX.out] at he4
              subst he4 hw4
              cases made
              · go_wp2
                exact bodyPost_ret (v := .tuple #[.float .f32 0, .bool false]) (by simp (maxDischargeDepth := 6) [results, Tryd.results118, go_sem]) rfl ⟨0, false, rfl, hNO.out (.inr (.inr (.inr (by show (makeF [43] m (e)).2 = false; rw [HX.out])))), bl_drewN HB3.out _⟩
              · go_wp2_with fail
                go_at_call 123
                refine (fmtSingleS_any x9 _ (makeF_GS HX.out)).mono ?_
                rintro en w5 ⟨l, rfl, hl, _, hb5⟩
                have hB5 := bl_call (bl_drewN HB3.out n4) hb5
                obtain ⟨hy, hn⟩ := hLA.out l x9 HX.out hl
                by_cases hlt : l = t
                · have hyes := hy hlt
                  have c9 : ((43 :: l) == (43 :: t)) = true := beq_iff_eq.2 (by rw [hlt])
                  have c8 : (l == t) = true := beq_iff_eq.2 hlt
                  clear hlt hy hn hl
                  go_wp2
                  exact bodyPost_ret (v := .tuple #[.float .f32 x9, .bool true]) (by simp (maxDischargeDepth := 6) [results, Tryd.results118, go_sem]) rfl ⟨x9, true, rfl, hyes, hB5⟩
                · have hno := hn hlt
                  have c9 : ((43 :: l) == (43 :: t)) = false := beq_eq_false_iff_ne.2 (fun h => hlt (List.cons.inj h).2)
                  have c8 : (l == t) = false := beq_eq_false_iff_ne.2 hlt
                  clear hlt hy hn hl
                  go_wp2
                  exact bodyPost_ret (v := .tuple #[.float .f32 0, .bool false]) (by simp (maxDischargeDepth := 6) [results, Tryd.results118, go_sem]) rfl ⟨0, false, rfl, hno, hB5⟩
        · have c2 : ((x : Int) != 112) = true := by rw [bne_iff_ne]; omega
          have c2' : ((x : Int) == 112) = false := beq_eq_false_iff_ne.2 (by omega)
          have HN : Hid (PpRel t w (.int .i64 ((k : Int) + 1 + 1)) w ∧ t.length + 1 - (RowKit.intOf (.int .i64 ((k : Int) + 1 + 1))).toNat < t.length + 1 - (RowKit.intOf (.int .i64 ((k : Int) + 1))).toNat) := Lib.hid ⟨⟨k + 1, by simp, by omega, fun j hj y hy => by
            rcases Nat.lt_or_ge j k with h | h
            · exact hno j h y hy
            · obtain rfl : j = k := by omega
              rw [List.getElem?_eq_getElem hkl] at hy
              have := Option.some.inj hy
              rw [← this]
              intro h9
              rw [h9] at hxs
              exact h112 hxs.symm, rfl⟩, by simp [RowKit.intOf]; omega⟩
          clear hno h112
          go_wp2
          case roundEnd => exact HN.out
      · have c1 : decide ((k : Int) + 1 < (t.length : Int) + 1) = false := decide_eq_false (by omega)
        obtain rfl : k = t.length := by omega
        have c3 : decide ((t.length : Int) + 1 ≤ (t.length : Int) + 1 + 1) = true := decide_eq_true (by omega)
        have HE : PsEnd t w (.returned (.tuple #[.float .f32 0, .bool false])) w := ⟨0, false, rfl, ps_none H48.out (fun a b h => by
          rw [cut_never hno] at h
          exact absurd (Prod.mk.inj (Prod.mk.inj h).2).2 (by decide)), Below.refl _ _⟩
        clear hno
        go_wp2
        exact bodyPost_ret (v := .tuple #[.float .f32 0, .bool false]) (by simp (maxDischargeDepth := 6) [results, Tryd.results118, go_sem]) rfl HE
end Go.Proofs.YtjgjgjkffoagoaaDoor
