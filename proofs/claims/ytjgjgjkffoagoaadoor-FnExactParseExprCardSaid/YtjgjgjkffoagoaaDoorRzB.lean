/- The reference's reader of expressions: a number. No condition. -/
import Derived.Test.YtjgjgjkffoagoaaDoorRzA
namespace Go.Proofs.YtjgjgjkffoagoaaDoor
open Go.RowKit
open Go.Lib (itoa decDigits nDigits nDigits_le20 itoa_length_le)
attribute [local go_sem] run_store_float run_store_complex
set_option maxRecDepth 100000
set_option maxHeartbeats 1000000
set_option linter.unusedVariables false
set_option linter.unusedSimpArgs false

/-- What a function of the reference's reader leaves: where it is good it has read what the plain reader reads. -/
def RzR (w0 : World) (s : List UInt8) (w' : World) (i : Nat) (out : List Nd) (f : Bool) (r : Option St) : Prop :=
  ∃ i' out' f', Rz w0 s w' i' out' f' ∧ i ≤ i' ∧ out'.length + i ≤ out.length + i' ∧ (f' = false → f = false ∧ r = some (i', out') ∧ out'.length ≤ 60) ∧ (f' = true → f = true ∨ r = none ∨ ∃ p, r = some p ∧ 60 < p.2.length)
def RzEnd (w0 : World) (s : List UInt8) (i : Nat) (out : List Nd) (f : Bool) (r : Option St) (e : Ending) (w' : World) : Prop := e = .returned (.tuple #[]) ∧ RzR w0 s w' i out f r
theorem rz_none {w0 w' : World} {s : List UInt8} {i i' : Nat} {out : List Nd} {f : Bool} {r : Option St} (hr : r = none) (h : Rz w0 s w' i' out true) (hi : i ≤ i') : RzR w0 s w' i out f r :=
  ⟨i', out, true, h, hi, (by omega), (fun h => by cases h), (fun _ => .inr (.inl hr))⟩
theorem rz_some {w0 w' : World} {s : List UInt8} {i i' : Nat} {out out' : List Nd} {f : Bool} {r : Option St} (hr : r = some (i', out')) (h : Rz w0 s w' i' out' (f || decide (60 < out'.length))) (hi : i ≤ i') (ho : out'.length + i ≤ out.length + i') : RzR w0 s w' i out f r := by
  refine ⟨i', out', _, h, hi, ho, fun hf => ?_, fun hf => ?_⟩
  · rw [Bool.or_eq_false_iff] at hf
    exact ⟨hf.1, hr, by have := of_decide_eq_false hf.2; omega⟩
  · rw [Bool.or_eq_true] at hf
    rcases hf with hf | hf
    · exact .inl hf
    · exact .inr (.inr ⟨_, hr, of_decide_eq_true hf⟩)
theorem digitsS_at (s : List UInt8) (hs : s.length ≤ 1000000) (m : Int) (i : Nat) (hm : m = (i : Int)) (w : World) : Calls Tryd.prog 117 #[tx s, .int .i64 m] w fun e w' => e = .returned (.int .i64 (figE s i : Int)) ∧ w' = w := by
  subst hm
  exact digitsS_any s hs i w
theorem parseS_plus (w : World) : Calls Tryd.prog 118 #[tx [43]] w fun e w' => e = .returned (.tuple #[.float .f32 0, .bool false]) ∧ w' = w := by
  go_enter Tryd.func118, Tryd.ntmps118
  go_wp2_with fail
  exact bodyPost_ret (v := .tuple #[.float .f32 0, .bool false]) (by simp (maxDischargeDepth := 6) [results, Tryd.results118, go_sem]) rfl ⟨rfl, rfl⟩
theorem PsR.zero {t : List UInt8} {x : Nat} (h : PsR t x true) : (FloatKind.f32.format.order x 0 != some .eq) = !(t == [48]) := by
  obtain ⟨hg, ht⟩ := h.1 rfl
  rw [bne, hg.eq0]
  congr 1
  rcases ht with ⟨h1, h2⟩ | ⟨m, e, h1, h2, h3⟩
  · rw [h1, h2]; rfl
  · rw [decide_eq_false h1]
    symm
    refine beq_eq_false_iff_ne.2 fun h48 => ?_
    rw [h48] at h3
    have := congrArg List.length h3
    have h5 := dec_pos (m : Int).toNat
    rw [← itoa_nat (m : Int) (by omega)] at h5
    simp only [List.length_append, List.length_cons, List.length_nil] at this
    omega
theorem Rz.setAt' {w0 w : World} {s : List UInt8} {i : Nat} {out : List Nd} {f : Bool} (h : Rz w0 s w i out f) {z : Int} {j : Nat} (hz : z = (j : Int)) (hj : j ≤ s.length) : Rz w0 s (w.setCell ⟨w0.heap.size, 1, none⟩ (.int .i64 z)) j out f := by subst hz; exact h.setAt hj
theorem readNumS_any (w0 w : World) (s : List UInt8) (hs : s.length ≤ 1000000) (i : Nat) (out : List Nd) (f : Bool) (h : Rz w0 s w i out f) (hlen : out.length ≤ 1000000) :
    Calls Tryd.prog 108 #[.pointer (some ⟨w0.heap.size, 0, none⟩)] w (RzEnd w0 s i out f (numF s i out)) := by
  have H := Lib.hid h
  have hil := h.le
  obtain ⟨q0, q1, q2, f1, f2⟩ := h.cells
  clear h
  obtain ⟨j, hj⟩ : ∃ j, figE s i = j := ⟨_, rfl⟩
  have HJ := Lib.hid hj
  have hjl : j ≤ s.length := by rw [← hj]; exact figE_le hil
  have hji : i ≤ j := by rw [← hj]; exact figE_ge s i
  go_enter Tryd.func108, Tryd.ntmps108
  go_wp2_with fail
  go_at_call 117
  refine (digitsS_any s hs i _).mono ?_
  rintro e w1 ⟨rfl, hw⟩
  have hw := hw.symm
  subst hw
  rw [hj]
  clear hj
  by_cases hij : i < j
  · have c0 : decide ((i : Int) < (j : Int)) = true := decide_eq_true (by omega)
    go_upto_region 2 with fail
    go_cut [39] (fun c wx => c = .bool (isAt s j 112) ∧ wx = w)
    case first =>
      by_cases hk : j < s.length
      · have c1 : decide ((j : Int) < (s.length : Int)) = true := decide_eq_true (by omega)
        have hsz : j < (⟨s.toArray⟩ : ByteArray).size := by simpa [ByteArray.size] using hk
        obtain ⟨x, hx⟩ : ∃ x : Nat, ((⟨s.toArray⟩ : ByteArray)[j]'hsz).toNat = x := ⟨_, rfl⟩
        have HX := Lib.hid (show isAt s j 112 = ((x : Int) == 112) by rw [isAt_in hk, show s[j].toNat = x from hx, Bool.eq_iff_iff]; simp; omega)
        go_wp2
        go_meet
        exact ⟨by rw [HX.out], rfl⟩
      · have c1 : decide ((j : Int) < (s.length : Int)) = false := decide_eq_false (by omega)
        have HX := Lib.hid (show isAt s j 112 = false from isAt_out (by omega))
        go_wp2
        go_meet
        exact ⟨by rw [HX.out], rfl⟩
    case rest =>
      obtain ⟨rfl, hwc⟩ := hcut
      have hwc := hwc.symm
      subst hwc
      obtain ⟨e, he⟩ : ∃ e, numE s i = e := ⟨_, rfl⟩
      have HE := Lib.hid he
      have hel : e ≤ s.length ∧ j ≤ e := by rw [← he, ← HJ.out]; exact numE_le hil
      obtain ⟨hel, hje⟩ := hel
      clear he
      go_upto_if 39 with fail
      go_cut [3] (fun c wx => c = .int .i64 (e : Int) ∧ wx = w)
      case first =>
        cases hp : isAt s j 112
        · have HEJ := Lib.hid (show e = j by rw [← HE.out]; unfold numE; rw [HJ.out, hp]; rfl)
          go_wp2
          go_meet
          exact ⟨by rw [HEJ.out], rfl⟩
        · have hjl2 := isAt_lt hp
          go_upto_region 4 with fail
          go_cut [57] (fun c wx => c = .bool (isAt s (j + 1) 45) ∧ wx = w)
          case first =>
            by_cases hk : j + 1 < s.length
            · have c1 : decide ((j : Int) + 1 < (s.length : Int)) = true := decide_eq_true (by omega)
              have hsz : j + 1 < (⟨s.toArray⟩ : ByteArray).size := by simpa [ByteArray.size] using hk
              obtain ⟨x, hx⟩ : ∃ x : Nat, ((⟨s.toArray⟩ : ByteArray)[j + 1]'hsz).toNat = x := ⟨_, rfl⟩
              have HX := Lib.hid (show isAt s (j + 1) 45 = ((x : Int) == 45) by rw [isAt_in hk, show s[j + 1].toNat = x from hx, Bool.eq_iff_iff]; simp; omega)
              go_wp2
              go_meet
              exact ⟨by rw [HX.out], rfl⟩
            · have c1 : decide ((j : Int) + 1 < (s.length : Int)) = false := decide_eq_false (by omega)
              have HX := Lib.hid (show isAt s (j + 1) 45 = false from isAt_out (by omega))
              go_wp2
              go_meet
              exact ⟨by rw [HX.out], rfl⟩
          case rest =>
            obtain ⟨rfl, hwc⟩ := hcut
            have hwc := hwc.symm
            subst hwc
            cases hm : isAt s (j + 1) 45
            · obtain ⟨g, hg⟩ : ∃ g, figE s (j + 1) = g := ⟨_, rfl⟩
              have HG := Lib.hid hg
              by_cases hjg : j + 1 < g
              · have c5 : decide ((j : Int) + 1 < (g : Int)) = true := decide_eq_true (by omega)
                have HEJ := Lib.hid (show e = g by
                  rw [← HE.out]; unfold numE; rw [HJ.out, hp, hm]
                  show (if j + 1 < figE s (j + 1) then figE s (j + 1) else j) = g
                  rw [hg, if_pos hjg])
                clear hg
                go_wp2_with (go_at_call 117; (with_reducible refine (digitsS_at s hs _ (j + 1) (by simp) _).mono ?_); rw [HG.out]; rintro e9 w9 ⟨rfl, hw9⟩; have hw9x := hw9.symm; clear hw9; subst hw9x)
                go_meet
                exact ⟨by rw [HEJ.out], rfl⟩
              · have c5 : decide ((j : Int) + 1 < (g : Int)) = false := decide_eq_false (by omega)
                have HEJ := Lib.hid (show e = j by
                  rw [← HE.out]; unfold numE; rw [HJ.out, hp, hm]
                  show (if j + 1 < figE s (j + 1) then figE s (j + 1) else j) = j
                  rw [hg, if_neg hjg])
                clear hg
                go_wp2_with (go_at_call 117; (with_reducible refine (digitsS_at s hs _ (j + 1) (by simp) _).mono ?_); rw [HG.out]; rintro e9 w9 ⟨rfl, hw9⟩; have hw9x := hw9.symm; clear hw9; subst hw9x)
                go_meet
                exact ⟨by rw [HEJ.out], rfl⟩
            · obtain ⟨g, hg⟩ : ∃ g, figE s (j + 2) = g := ⟨_, rfl⟩
              have HG := Lib.hid hg
              by_cases hjg : j + 2 < g
              · have c5 : decide ((j : Int) + 1 + 1 < (g : Int)) = true := decide_eq_true (by omega)
                have c6 : decide ((j : Int) + 2 < (g : Int)) = true := decide_eq_true (by omega)
                have HEJ := Lib.hid (show e = g by
                  rw [← HE.out]; unfold numE; rw [HJ.out, hp, hm]
                  show (if j + 2 < figE s (j + 2) then figE s (j + 2) else j) = g
                  rw [hg, if_pos hjg])
                clear hg
                go_wp2_with (go_at_call 117; (with_reducible refine (digitsS_at s hs _ (j + 2) (by simp; try omega) _).mono ?_); rw [HG.out]; rintro e9 w9 ⟨rfl, hw9⟩; have hw9x := hw9.symm; clear hw9; subst hw9x)
                go_meet
                exact ⟨by rw [HEJ.out], rfl⟩
              · have c5 : decide ((j : Int) + 1 + 1 < (g : Int)) = false := decide_eq_false (by omega)
                have c6 : decide ((j : Int) + 2 < (g : Int)) = false := decide_eq_false (by omega)
                have HEJ := Lib.hid (show e = j by
                  rw [← HE.out]; unfold numE; rw [HJ.out, hp, hm]
                  show (if j + 2 < figE s (j + 2) then figE s (j + 2) else j) = j
                  rw [hg, if_neg hjg])
                clear hg
                go_wp2_with (go_at_call 117; (with_reducible refine (digitsS_at s hs _ (j + 2) (by simp; try omega) _).mono ?_); rw [HG.out]; rintro e9 w9 ⟨rfl, hw9⟩; have hw9x := hw9.symm; clear hw9; subst hw9x)
                go_meet
                exact ⟨by rw [HEJ.out], rfl⟩
      case rest =>
        obtain ⟨rfl, hwc⟩ := hcut
        have hwc := hwc.symm
        subst hwc
        obtain ⟨T, hT⟩ : ∃ T, numT s i = T := ⟨_, rfl⟩
        have HTT := Lib.hid hT
        have hTe : (s.drop i).take (e - i) = T := by rw [← hT, ← HE.out]; rfl
        have hTl : T.length ≤ 1000000 := by rw [← hTe, List.length_take, List.length_drop]; omega
        obtain ⟨ch, hc0, hc1⟩ := numT_head hil (by rw [HJ.out]; exact hij)
        rw [hT] at hc0
        have j1 : (0 : Int) ≤ (e : Int) := by omega
        have j2 : (e : Int) ≤ (s.length : Int) := by omega
        have j3 : (i : Int) ≤ (e : Int) := by omega
        have g1 : (e < i) = False := eq_false (by omega)
        have g2 : (s.length < e) = False := eq_false (by omega)
        have gt : (9223372036854775807 < 1 + T.length) = False := eq_false (by omega)
        have eX : (⟨s.toArray⟩ : ByteArray).extract i e = ⟨T.toArray⟩ := by rw [mid_of, hTe]
        have c8 : ((e : Int) == (i : Int)) = false := beq_eq_false_iff_ne.2 (by omega)
        clear hT hTe
        go_wp2_with fail
        go_at_call 118
        rw [plus_cat]
        refine (parseSingleS T hTl ch hc0 hc1 _).mono ?_
        rintro en w5 ⟨x, ok, rfl, hps, hb5⟩
        have HPS := Lib.hid hps
        have HF := Lib.hid (psF_of hps)
        have HR5 := Lib.hid (H.out.below hb5)
        clear hb5 q0 q1 q2 f1 f2
        obtain ⟨q0, q1, q2, f1, f2⟩ := HR5.out.cells
        cases ok
        · have HN := Lib.hid (show numF s i out = none by unfold numF; rw [HJ.out, if_pos hij, HTT.out, HF.out]; rfl)
          have HFF := Lib.hid (HR5.out.setBad)
          clear hps
          go_wp2
          first
            | refine bodyPost_end (results_none rfl _ _ _) rfl ⟨rfl, rz_none HN.out HFF.out (by omega)⟩
            | refine bodyPost_ret (results_none rfl _ _ _) rfl ⟨rfl, rz_none HN.out HFF.out (by omega)⟩
        · have HG := Lib.hid (HPS.out.1 rfl).1
          have HZ := Lib.hid (HPS.out.zero)
          clear hps
          have HR6 := Lib.hid (HR5.out.setAt hel)
          obtain ⟨m0, m1, m2, m3, m4⟩ := HR6.out.cells
          go_upto_region 14 with (refine wpl_widen 97 Tryd.underlying73 Tryd.underlying65 rfl rfl rfl rfl ?_; intro r1 n1 hr1; obtain rfl : r1 = wd x := wd_of HG.out hr1.out.1; clear hr1)
          have HR7 := Lib.hid (HR6.out.drewN n1)
          clear q0 q1 q2 f1 f2 m0 m1 m2 m3 m4
          obtain ⟨q0, q1, q2, f1, f2⟩ := HR7.out.cells
          have hz := HZ.out
          obtain ⟨W, hW⟩ : ∃ W, (w5.setCell ⟨w0.heap.size, 1, none⟩ (.int .i64 (e : Int))).drewN n1 = W := ⟨_, rfl⟩
          rw [hW] at HR7 q0 q1 q2 f1 f2 ⊢
          clear hW
          go_cut [118] (fun c wx => c = .bool (!(T == [48]) && isAt s e 105) ∧ wx = W)
          case first =>
            by_cases hk : e < s.length
            · have c1 : decide ((e : Int) < (s.length : Int)) = true := decide_eq_true (by omega)
              have hsz : e < (⟨s.toArray⟩ : ByteArray).size := by simpa [ByteArray.size] using hk
              obtain ⟨z, hzz⟩ : ∃ z : Nat, ((⟨s.toArray⟩ : ByteArray)[e]'hsz).toNat = z := ⟨_, rfl⟩
              by_cases h105 : z = 105
              · have c2 : ((z : Int) == 105) = true := by rw [h105]; rfl
                have HX := Lib.hid (show isAt s e 105 = true by rw [isAt_in hk, show s[e].toNat = z from hzz, h105]; rfl)
                go_wp2
                go_meet
                exact ⟨by rw [HX.out, Bool.and_true], rfl⟩
              · have c2 : ((z : Int) == 105) = false := beq_eq_false_iff_ne.2 (by omega)
                have HX := Lib.hid (show isAt s e 105 = false by rw [isAt_in hk, show s[e].toNat = z from hzz]; exact beq_eq_false_iff_ne.2 h105)
                go_wp2
                go_meet
                exact ⟨by rw [HX.out, Bool.and_false], rfl⟩
            · have c1 : decide ((e : Int) < (s.length : Int)) = false := decide_eq_false (by omega)
              have HX := Lib.hid (show isAt s e 105 = false from isAt_out (by omega))
              go_wp2
              go_meet
              exact ⟨by rw [HX.out, Bool.and_false], rfl⟩
          case rest =>
            obtain ⟨rfl, hwc⟩ := hcut
            have hwc := hwc.symm
            subst hwc
            clear hz
            cases hq : (!(T == [48]) && isAt s e 105)
            · have HN := Lib.hid (show numF s i out = some (e, out ++ [⟨1, 0, wd x, 0⟩]) by unfold numF; rw [HJ.out, if_pos hij, HTT.out, HF.out, HE.out, hq]; rfl)
              clear hq
              go_wp2_with fail
              go_at_call 47
              refine (putS_any ⟨1, 0, wd x, 0⟩ w0 _ s e out f hlen HR7.out).mono ?_
              rintro en w8 ⟨rfl, hr8⟩
              have HR8 := Lib.hid hr8
              clear hr8
              go_wp2
              first
                | refine bodyPost_end (results_none rfl _ _ _) rfl ⟨rfl, rz_some HN.out (by rw [List.length_append]; exact HR8.out) (by omega) (by simp; omega)⟩
                | refine bodyPost_ret (results_none rfl _ _ _) rfl ⟨rfl, rz_some HN.out (by rw [List.length_append]; exact HR8.out) (by omega) (by simp; omega)⟩
            · have hie : isAt s e 105 = true := (Bool.and_eq_true_iff.1 hq).2
              have hel2 := isAt_lt hie
              have HN := Lib.hid (show numF s i out = some (e + 1, out ++ [⟨1, 0, 0, wd x⟩]) by unfold numF; rw [HJ.out, if_pos hij, HTT.out, HF.out, HE.out, hq]; rfl)
              clear hq hie
              have HR8 := Lib.hid (HR7.out.setAt' (z := (e : Int) + 1) (j := e + 1) (by simp) hel2)
              go_wp2_with (refine wpl_widen 125 Tryd.underlying73 Tryd.underlying65 rfl rfl rfl rfl ?_; intro r2 n2 hr2; obtain rfl : r2 = wd x := wd_of HG.out hr2.out.1; clear hr2)
              go_at_call 47
              refine (putS_any ⟨1, 0, 0, wd x⟩ w0 _ s (e + 1) out f hlen (HR8.out.drewN n2)).mono ?_
              rintro en w8 ⟨rfl, hr8⟩
              have HR9 := Lib.hid hr8
              clear hr8
              go_wp2
              first
                | refine bodyPost_end (results_none rfl _ _ _) rfl ⟨rfl, rz_some HN.out (by rw [List.length_append]; exact HR9.out) (by omega) (by simp; omega)⟩
                | refine bodyPost_ret (results_none rfl _ _ _) rfl ⟨rfl, rz_some HN.out (by rw [List.length_append]; exact HR9.out) (by omega) (by simp; omega)⟩
  · obtain rfl : j = i := by omega
    have c0 : decide ((j : Int) < (j : Int)) = false := decide_eq_false (by omega)
    have j1 : (0 : Int) ≤ (j : Int) := by omega
    have j2 : (j : Int) ≤ (s.length : Int) := by omega
    have g2 : (s.length < j) = False := eq_false (by omega)
    have eX : (⟨s.toArray⟩ : ByteArray).extract j j = ⟨([] : List UInt8).toArray⟩ := by rw [mid_of, Nat.sub_self]; rfl
    have HN := Lib.hid (show numF s j out = none by unfold numF; rw [HJ.out, if_neg (by omega)])
    have HFF := Lib.hid (H.out.setBad)
    go_wp2_with fail
    go_at_call 118
    refine (parseS_plus _).mono ?_
    rintro en w5 ⟨rfl, hw⟩
    have hw := hw.symm
    subst hw
    go_wp2
    first
      | refine bodyPost_end (results_none rfl _ _ _) rfl ⟨rfl, rz_none HN.out HFF.out (by omega)⟩
      | refine bodyPost_ret (results_none rfl _ _ _) rfl ⟨rfl, rz_none HN.out HFF.out (by omega)⟩
end Go.Proofs.YtjgjgjkffoagoaaDoor
