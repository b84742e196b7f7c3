/- Reading the text of a single: plain facts, and strings.Cut at "p". No condition. -/
import Derived.Test.YtjgjgjkffoagoaaDoorFmtS
import Derived.BigQuiet
namespace Go.Proofs.YtjgjgjkffoagoaaDoor
open Go.RowKit
open Go.Lib (itoa decDigits nDigits nDigits_le20 itoa_length_le)
set_option maxRecDepth 100000
set_option maxHeartbeats 4000000
set_option linter.unusedVariables false
set_option linter.unusedSimpArgs false

theorem tail_of (l : List UInt8) (k : Nat) : (⟨l.toArray⟩ : ByteArray).extract k l.length = ⟨(l.drop k).toArray⟩ := by
  rw [Lib.extract_eq]; simp only [List.take_of_length_le, List.length_drop, Nat.le_refl]
theorem head_of (l : List UInt8) (k : Nat) : (⟨l.toArray⟩ : ByteArray).extract 0 k = ⟨(l.take k).toArray⟩ := by
  rw [Lib.extract_eq]; simp
/-- A text cut at its first 'p'. -/
def cutP (t : List UInt8) : List UInt8 × List UInt8 × Bool :=
  if 0 ≤ Lib.indexByte t 112 then (t.take (Lib.indexByte t 112).toNat, t.drop ((Lib.indexByte t 112).toNat + 1), true) else (t, [], false)
theorem indexByte_at : ∀ (a b : List UInt8) (c : UInt8), (∀ x ∈ a, x ≠ c) → Lib.indexByte (a ++ c :: b) c = (a.length : Int)
  | [], b, c, _ => by simp [Lib.indexByte]
  | x :: a, b, c, h => by
    have h1 : (x == c) = false := beq_eq_false_iff_ne.2 (h x (by simp))
    have ih := indexByte_at a b c (fun y hy => h y (by simp [hy]))
    show (if x == c then 0 else if Lib.indexByte (a ++ c :: b) c == -1 then -1 else Lib.indexByte (a ++ c :: b) c + 1) = _
    rw [h1, ih]
    have h2 : ((a.length : Int) == -1) = false := beq_eq_false_iff_ne.2 (by omega)
    rw [h2]
    simp
theorem cutP_at (a b : List UInt8) (h : ∀ x ∈ a, x ≠ 112) : cutP (a ++ 112 :: b) = (a, b, true) := by
  unfold cutP
  rw [indexByte_at a b 112 h, if_pos (by omega)]
  simp
theorem cut_p (t : List UInt8) (ht : t.length ≤ 1000000) (a b : List UInt8) (c : Bool) (hcut : cutP t = (a, b, c)) (w : World) :
    Calls Tryd.prog 116 #[tx t, .string ⟨#[112]⟩] w fun e w' => e = .returned (.tuple #[tx a, tx b, .bool c]) ∧ ∃ n, w' = w.drewN n := by
  by_cases hi : 0 ≤ Lib.indexByte t 112
  · obtain ⟨k, hk⟩ : ∃ k : Nat, Lib.indexByte t 112 = (k : Int) := ⟨(Lib.indexByte t 112).toNat, by omega⟩
    have hkl : k < t.length := by
      have := (Lib.indexByte_some hk).1
      exact (List.getElem?_eq_some_iff.1 this).1
    have HC : Hid (t.take k = a ∧ t.drop (k + 1) = b ∧ true = c) := Lib.hid (by
      unfold cutP at hcut
      rw [if_pos hi, hk, Int.toNat_natCast] at hcut
      have h1 := Prod.mk.inj hcut
      have h2 := Prod.mk.inj h1.2
      exact ⟨h1.1, h2.1, h2.2⟩)
    have f1 : (t.length < k) = False := eq_false (by omega)
    have f2 : (t.length < k + 1) = False := eq_false (by omega)
    clear hcut hi
    go_enter Tryd.func116, Tryd.ntmps116
    go_wp2_with (go_at_call 121; (with_reducible refine (Tryd.stringslite_Index_one _ _ _).mono ?_); rintro e w9 ⟨rfl, hw9⟩; have hw9x := hw9.symm; clear hw9; subst hw9x; rw [show Lib.indexByte (⟨t.toArray⟩ : ByteArray).data.toList 112 = (k : Int) from hk])
    go_quiet (fail)
    go_wp2
    obtain ⟨h1, h2, h3⟩ := HC.out
    refine bodyPost_ret (v := .tuple #[.string ((⟨t.toArray⟩ : ByteArray).extract 0 k), .string ((⟨t.toArray⟩ : ByteArray).extract (k + 1) t.length), .bool true]) (by simp (maxDischargeDepth := 6) [results, Tryd.results116, go_sem]) rfl ⟨?_, nq, rfl⟩
    rw [head_of, tail_of, h1, h2, ← h3]
  · have hn : Lib.indexByte t 112 = -1 := by have := Lib.indexByte_ge t 112; omega
    have HC : Hid (t = a ∧ [] = b ∧ false = c) := Lib.hid (by
      unfold cutP at hcut
      rw [if_neg hi] at hcut
      have h1 := Prod.mk.inj hcut
      have h2 := Prod.mk.inj h1.2
      exact ⟨h1.1, h2.1, h2.2⟩)
    clear hcut hi
    go_enter Tryd.func116, Tryd.ntmps116
    go_wp2_with (go_at_call 121; (with_reducible refine (Tryd.stringslite_Index_one _ _ _).mono ?_); rintro e w9 ⟨rfl, hw9⟩; have hw9x := hw9.symm; clear hw9; subst hw9x; rw [show Lib.indexByte (⟨t.toArray⟩ : ByteArray).data.toList 112 = -1 from hn])
    obtain ⟨h1, h2, h3⟩ := HC.out
    subst h1 h2 h3
    exact bodyPost_ret (v := .tuple #[tx t, tx [], .bool false]) (by simp (maxDischargeDepth := 6) [results, Tryd.results116, go_sem]) rfl ⟨rfl, 0, rfl⟩
theorem Cut_p (t : List UInt8) (ht : t.length ≤ 1000000) (a b : List UInt8) (c : Bool) (hcut : cutP t = (a, b, c)) (w : World) :
    Calls Tryd.prog 104 #[tx t, .string ⟨#[112]⟩] w fun e w' => e = .returned (.tuple #[tx a, tx b, .bool c]) ∧ ∃ n, w' = w.drewN n := by
  have HC := Lib.hid hcut
  clear hcut
  go_enter Tryd.func104, Tryd.ntmps104
  go_wp2_with (go_at_call 116; (with_reducible refine (cut_p t ht a b c HC.out _).mono ?_); rintro e w9 ⟨rfl, n, hw9⟩; subst hw9)
  exact bodyPost_ret (v := .tuple #[tx a, tx b, .bool c]) (by simp (maxDischargeDepth := 6) [results, Tryd.results104, go_sem]) rfl ⟨rfl, n, rfl⟩

/-! ### What is read -/
theorem itoa_abs (n : Int) : itoa n = (if n < 0 then [45] else []) ++ decDigits n.natAbs := by
  unfold itoa
  by_cases h : n < 0
  · simp [h]
  · simp [h]
    rw [show n.toNat = n.natAbs by omega]
/-- What reading a text gives: the single of which it is the text. -/
def PsR (t : List UInt8) (x : Nat) (ok : Bool) : Prop := (ok = true → GS x ∧ TxR x t) ∧ (ok = false → ∀ y, GS y → TxR y t → False)
theorem PuR.full {l : List UInt8} {r : Int} {ok : Bool} (h : PuR l r ok) (u : Nat) (hu : u ≤ 1000000000) (hl : decDigits u = l) : ok = true ∧ r = u := by
  have hi : itoa (u : Int) = l := by rw [itoa_nat _ (by omega)]; simpa using hl
  cases ok with
  | true =>
    refine ⟨rfl, ?_⟩
    have h1 := (h.1 rfl).2.2
    have h2 := dval_itoa r (h.1 rfl).1
    have h3 := dval_itoa (u : Int) (by omega)
    rw [h1] at h2
    rw [hi] at h3
    omega
  | false => exact absurd hi ((h.2 rfl).2 u (by omega) (by omega))
theorem PuR.range {l : List UInt8} {r : Int} {ok : Bool} (h : PuR l r ok) : 0 ≤ r ∧ r ≤ 1000000000 := by
  cases ok with
  | true => exact ⟨(h.1 rfl).1, (h.1 rfl).2.1⟩
  | false => have := (h.2 rfl).1; omega
theorem TxR.parts {y : Nat} {t : List UInt8} (h : TxR y t) (h48 : t ≠ [48]) : ∃ (m : Nat) (e : Int), SpR y m e ∧ cutP t = (decDigits m, itoa e, true) := by
  rcases h with ⟨_, h⟩ | ⟨m, e, _, hs, ht⟩
  · exact absurd h h48
  · refine ⟨m, e, hs, ?_⟩
    have h1 : itoa (m : Int) = decDigits m := by rw [itoa_nat _ (by omega)]; simp
    rw [ht, h1]
    refine cutP_at _ _ fun x hx hc => ?_
    have := figs_decDigits m x hx
    rw [hc] at this
    have h2 : (112 : UInt8).toNat = 112 := rfl
    omega
theorem SpR.mk {y m : Nat} {e : Int} (hy : GS y) (h : SpR y m e) : makeF [43] (m : Int) e = (y, true) := by
  obtain ⟨h1, h2, h3, h4, h5⟩ := h
  have hr : rungOf FloatKind.f32.format m e = y := rung_of_rval _ (by rw [← h5, hy.val])
  have hok : mkOk m e = true := by
    unfold mkOk
    rw [hr]
    have := hy.2.1
    rw [hy.ru] at this
    exact decide_eq_true ⟨this, by rw [← hy.val, h5]⟩
  unfold makeF
  rw [Int.toNat_natCast, hok, hr]
  have a1 : decide ((0 : Int) ≤ (m : Int)) = true := decide_eq_true (by omega)
  have a2 : decide ((m : Int) ≤ 16777215) = true := decide_eq_true (by omega)
  have a3 : decide (-149 ≤ e) = true := decide_eq_true h3
  have a4 : decide (e ≤ 127) = true := decide_eq_true h4
  rw [a1, a2, a3, a4]
  rfl
/-- Behind the cut: what the two numbers are. -/
theorem ps_parts {y : Nat} {t a b b' : List UInt8} {c q one two : Bool} {m e : Int} (hy : GS y) (ht : TxR y t) (h48 : t ≠ [48]) (hcut : cutP t = (a, b, c)) (hq : Lib.hasPrefix b [45] = q) (hb : b' = if q then b.drop 1 else b) (h1 : PuR a m one) (h2 : PuR b' e two) :
    c = true ∧ one = true ∧ two = true ∧ makeF [43] m (if q then -e else e) = (y, true) := by
  obtain ⟨m0, e0, hs, hc⟩ := ht.parts h48
  rw [hcut] at hc
  have hc1 := Prod.mk.inj hc
  have hc2 := Prod.mk.inj hc1.2
  obtain ⟨o1, rfl⟩ := h1.full m0 (by have := hs.2.1; omega) hc1.1.symm
  have hbe := hc2.1
  rw [itoa_abs] at hbe
  have he1 := hs.2.2.1
  have he2 := hs.2.2.2.1
  refine ⟨hc2.2, o1, ?_⟩
  by_cases hneg : e0 < 0
  · rw [if_pos hneg] at hbe
    have hqt : q = true := by rw [← hq, hbe]; rfl
    subst hqt
    have hb2 : b' = decDigits e0.natAbs := by rw [hb, hbe]; rfl
    obtain ⟨o2, rfl⟩ := h2.full e0.natAbs (by omega) hb2.symm
    refine ⟨o2, ?_⟩
    have := hs.mk hy
    rw [if_pos rfl, show -((e0.natAbs : Nat) : Int) = e0 by omega]
    exact this
  · rw [if_neg hneg] at hbe
    have hqf : q = false := by
      rw [← hq, hbe]
      obtain ⟨x, l, hl⟩ : ∃ x l, decDigits e0.natAbs = x :: l := List.exists_cons_of_length_pos (dec_pos _)
      have hx := figs_decDigits e0.natAbs x (by rw [hl]; simp)
      rw [List.nil_append, hl]
      have : (45 == x) = false := by
        refine beq_eq_false_iff_ne.2 fun h => ?_
        rw [← h] at hx
        have h2 : (45 : UInt8).toNat = 45 := rfl
        omega
      show ((45 == x) && List.isPrefixOf [] l) = false
      rw [this]; rfl
    subst hqf
    have hb2 : b' = decDigits e0.natAbs := by rw [hb, hbe]; rfl
    obtain ⟨o2, rfl⟩ := h2.full e0.natAbs (by omega) hb2.symm
    refine ⟨o2, ?_⟩
    have := hs.mk hy
    rw [if_neg (by decide), show ((e0.natAbs : Nat) : Int) = e0 by omega]
    exact this
theorem makeF_GS {m e : Int} {x : Nat} (h : makeF [43] m e = (x, true)) : GS x := by
  unfold makeF at h
  split at h
  · rename_i hc
    simp only [Bool.and_eq_true] at hc
    have hk := hc.2
    have hx : rungOf FloatKind.f32.format m.toNat e = x := by
      have : signedF [43] (rungOf FloatKind.f32.format m.toNat e) = (rungOf FloatKind.f32.format m.toNat e, true) := rfl
      rw [this] at h
      exact (Prod.mk.inj h).1
    have hl := mkOk_rung hk
    rw [hx] at hl
    obtain ⟨w1, w2, w3⟩ := word32 hl
    exact ⟨w1, by rw [w2]; exact hl, w3⟩
  · exact absurd (Prod.mk.inj h).2 (by decide)
theorem ps_no {t a b b' : List UInt8} {c q one two : Bool} {m e s : Int} (hs : (if q then -e else e) = s) (h48 : t ≠ [48]) (hcut : cutP t = (a, b, c)) (hq : Lib.hasPrefix b [45] = q) (hb : b' = if q then b.drop 1 else b) (h1 : PuR a m one) (h2 : PuR b' e two)
    (hno : c = false ∨ one = false ∨ two = false ∨ (makeF [43] m s).2 = false) : PsR t 0 false := by
  refine ⟨fun h => (by cases h), fun _ y hy ht => ?_⟩
  obtain ⟨k1, k2, k3, k4⟩ := ps_parts hy ht h48 hcut hq hb h1 h2
  rw [hs] at k4
  rcases hno with h | h | h | h
  · rw [k1] at h; cases h
  · rw [k2] at h; cases h
  · rw [k3] at h; cases h
  · rw [k4] at h; cases h
/-- Behind the text made anew. -/
theorem ps_last {t a b b' l : List UInt8} {c q one two : Bool} {m e s : Int} {x : Nat} (hs : (if q then -e else e) = s) (h48 : t ≠ [48]) (hcut : cutP t = (a, b, c)) (hq : Lib.hasPrefix b [45] = q) (hb : b' = if q then b.drop 1 else b) (h1 : PuR a m one) (h2 : PuR b' e two)
    (hx : makeF [43] m s = (x, true)) (hl : TxR x l) : (l = t → PsR t x true) ∧ (l ≠ t → PsR t 0 false) := by
  refine ⟨fun h => ⟨fun _ => ⟨makeF_GS hx, h ▸ hl⟩, fun h => (by cases h)⟩, fun h => ⟨fun h => (by cases h), fun _ y hy ht => ?_⟩⟩
  obtain ⟨k1, k2, k3, k4⟩ := ps_parts hy ht h48 hcut hq hb h1 h2
  rw [hs] at k4
  rw [hx] at k4
  obtain rfl := (Prod.mk.inj k4).1
  exact h (hl.uniq ht)
end Go.Proofs.YtjgjgjkffoagoaaDoor
