/- The reader of expressions: a number. Condition: the table of powers of ten is laid. -/
import Derived.Test.YtjgjgjkffoagoaaDoorRdB
import Derived.Deep.DeepCutAuto
import Derived.Deep.RegionLaw
namespace Go.Proofs.YtjgjgjkffoagoaaDoor
open Go.RowKit
open Go.Lib (itoa decDigits nDigits nDigits_le20 itoa_length_le)
attribute [local go_sem] run_store_float run_store_complex
set_option maxRecDepth 100000
set_option maxHeartbeats 1000000
set_option linter.unusedVariables false
set_option linter.unusedSimpArgs false

/-- Does a byte stand at a place? -/
def isAt (s : List UInt8) (k : Nat) (c : Nat) : Bool := match s[k]? with
  | some b => b.toNat == c
  | none => false
/-- Where a number ends that begins at a place. -/
def numE (s : List UInt8) (i : Nat) : Nat :=
  if isAt s (figE s i) 112 then
    let k := if isAt s (figE s i + 1) 45 then figE s i + 2 else figE s i + 1
    if k < figE s k then figE s k else figE s i
  else figE s i
theorem isAt_lt {s : List UInt8} {k c : Nat} (h : isAt s k c = true) : k < s.length := by
  unfold isAt at h
  rcases Nat.lt_or_ge k s.length with h1 | h1
  · exact h1
  · rw [List.getElem?_eq_none h1] at h; cases h
theorem isAt_in {s : List UInt8} {k c : Nat} (h : k < s.length) : isAt s k c = (s[k].toNat == c) := by
  unfold isAt; rw [List.getElem?_eq_getElem h]
theorem isAt_out {s : List UInt8} {k c : Nat} (h : s.length ≤ k) : isAt s k c = false := by
  unfold isAt; rw [List.getElem?_eq_none h]
theorem numE_le {s : List UInt8} {i : Nat} (h : i ≤ s.length) : numE s i ≤ s.length ∧ figE s i ≤ numE s i := by
  have h1 := figE_le h
  unfold numE
  split
  · rename_i hp
    have hl := isAt_lt hp
    have h2 : (if isAt s (figE s i + 1) 45 then figE s i + 2 else figE s i + 1) ≤ s.length ∧ figE s i ≤ (if isAt s (figE s i + 1) 45 then figE s i + 2 else figE s i + 1) := by
      split
      · rename_i hm; have := isAt_lt hm; omega
      · omega
    simp only
    generalize (if isAt s (figE s i + 1) 45 then figE s i + 2 else figE s i + 1) = k at h2 ⊢
    have h3 := figE_le h2.1
    have h4 := figE_ge s k
    split
    · omega
    · omega
  · exact ⟨h1, Nat.le_refl _⟩
/-- The reader's cells. -/
theorem Rd.cells {w0 wb w : World} {s : List UInt8} {i : Nat} {out : List Nd} {f : Bool} (h : Rd w0 wb s w i out f) :
    w.cell? ⟨w0.heap.size, 0, none⟩ = some (tx s) ∧ w.cell? ⟨w0.heap.size, 1, none⟩ = some (.int .i64 (i : Int)) ∧ w.cell? ⟨w0.heap.size, 3, none⟩ = some (.bool f) ∧ w.frozen? ⟨w0.heap.size, 1, none⟩ = false ∧ w.frozen? ⟨w0.heap.size, 2, none⟩ = false ∧ w.frozen? ⟨w0.heap.size, 3, none⟩ = false := by
  obtain ⟨v, hb, _⟩ := h
  exact ⟨hb.cell 0, hb.cell 1, hb.cell 3, hb.frozen 1, hb.frozen 2, hb.frozen 3⟩
theorem Rd.setAt' {w0 wb w : World} {s : List UInt8} {i : Nat} {out : List Nd} {f : Bool} (h : Rd w0 wb s w i out f) {z : Int} {j : Nat} (hz : z = (j : Int)) (hj : j ≤ s.length) : Rd w0 wb s (w.setCell ⟨w0.heap.size, 1, none⟩ (.int .i64 z)) j out f := by subst hz; exact h.setAt hj

theorem Rd.below {w0 wb w w' : World} {s : List UInt8} {i : Nat} {out : List Nd} {f : Bool} (h : Rd w0 wb s w i out f) (hb : Below w.heap.size w w') : Rd w0 wb s w' i out f := by
  have hl := h.lt
  obtain ⟨v, a, b, c, d⟩ := h
  exact ⟨v, a.below hb hl, own_below b hb, c, bl_call d.1 hb, d.2.trans (Fr.of_below hl hb)⟩
theorem own_set {base n size : Nat} {e : TypeId} {v : Value} {xs : List Value} {w : World} (h : w.ownsRow base e size v n xs) (p : Addr) (u : Value) (hp : ∀ g, v.ownBlock = some g → g ≠ p.block) : (w.setCell p u).ownsRow base e size v n xs := by
  refine ⟨h.1, ?_⟩
  rcases h.2 with h1 | ⟨g', cap', cur, h1, h2, h3, h4⟩
  · exact .inl h1
  · have hg : v.ownBlock = some g' := by rw [h1]; rfl
    exact .inr ⟨g', cap', cur, h1, h2, (Below.heap_setCell w p u g' (hp g' hg)).trans h3, h4⟩
theorem figE_head {s : List UInt8} {i : Nat} (hi : i ≤ s.length) (h : i < figE s i) : ∃ h : i < s.length, isFig s[i] = true := by
  rcases Nat.lt_or_ge i s.length with h1 | h1
  · refine ⟨h1, ?_⟩
    cases hq : isFig s[i]
    · rw [figE_stop h1 hq] at h; omega
    · rfl
  · rw [figE_end h1] at h; omega
theorem mid_of (l : List UInt8) (a b : Nat) : (⟨l.toArray⟩ : ByteArray).extract a b = ⟨((l.drop a).take (b - a)).toArray⟩ := by
  rw [Lib.extract_eq]
theorem plus_cat (l : List UInt8) : (⟨#[43]⟩ : ByteArray) ++ (⟨l.toArray⟩ : ByteArray) = ⟨(43 :: l).toArray⟩ := by
  have := cat [43] l
  simpa using this
/-- The text of a number. -/
def numT (s : List UInt8) (i : Nat) : List UInt8 := (s.drop i).take (numE s i - i)
theorem numT_head {s : List UInt8} {i : Nat} (hi : i ≤ s.length) (h : i < figE s i) : ∃ c, (numT s i).head? = some c ∧ 48 ≤ c.toNat ∧ c.toNat ≤ 57 := by
  obtain ⟨h1, h2⟩ := figE_head hi h
  have h3 := (numE_le hi).2
  refine ⟨s[i], ?_, ?_⟩
  · unfold numT
    rw [List.head?_take, if_neg (by omega), List.head?_drop, List.getElem?_eq_getElem h1]
  · unfold isFig at h2
    simpa using h2
/-- The single of which a text is the text. -/
noncomputable def psF (t : List UInt8) : Option Nat := open Classical in if h : ∃ y, GS y ∧ TxR y t then some h.choose else none
theorem TxR.same {y z : Nat} {t : List UInt8} (hy : GS y) (hz : GS z) (h : TxR y t) (h' : TxR z t) : y = z := by
  by_cases h48 : t = [48]
  · have key : ∀ {x : Nat}, TxR x t → x = 0 := by
      intro x hx
      rcases hx with ⟨h1, _⟩ | ⟨m, e, _, hs, ht⟩
      · exact h1
      · exfalso
        rw [h48] at ht
        have := congrArg List.length ht
        rw [List.length_append, List.length_cons] at this
        have h1 : itoa (m : Int) = decDigits m := by rw [itoa_nat _ (by omega)]; simp
        have h2 := dec_pos m
        rw [h1] at this
        simp at this
        omega
    rw [key h, key h']
  · obtain ⟨m, e, h1, h2⟩ := h.parts h48
    obtain ⟨n, f, g1, g2⟩ := h'.parts h48
    rw [h2] at g2
    have k1 := Prod.mk.inj g2
    have k2 := Prod.mk.inj k1.2
    have hm : m = n := by
      have a := dval_decDigits m
      have b := dval_decDigits n
      rw [k1.1] at a
      omega
    have he : e = f := by
      have a := itoa_abs e
      have b := itoa_abs f
      rw [k2.1] at a
      rw [a] at b
      have da := figs_decDigits e.natAbs
      have db := figs_decDigits f.natAbs
      by_cases x1 : e < 0 <;> by_cases x2 : f < 0
      · rw [if_pos x1, if_pos x2] at b
        have c := (List.cons.inj b).2
        have a1 := dval_decDigits e.natAbs
        have b1 := dval_decDigits f.natAbs
        have c' : decDigits e.natAbs = decDigits f.natAbs := c
        rw [c'] at a1
        omega
      · exfalso
        rw [if_pos x1, if_neg x2, List.nil_append] at b
        have := db 45 (by rw [← b]; simp)
        have h2 : (45 : UInt8).toNat = 45 := rfl
        omega
      · exfalso
        rw [if_neg x1, if_pos x2, List.nil_append] at b
        have := da 45 (by rw [b]; simp)
        have h2 : (45 : UInt8).toNat = 45 := rfl
        omega
      · rw [if_neg x1, if_neg x2, List.nil_append, List.nil_append] at b
        have a1 := dval_decDigits e.natAbs
        have b1 := dval_decDigits f.natAbs
        rw [b] at a1
        omega
    subst hm he
    exact hy.inj hz (h1.2.2.2.2.trans g1.2.2.2.2.symm)
theorem psF_of {t : List UInt8} {x : Nat} {ok : Bool} (h : PsR t x ok) : psF t = if ok then some x else none := by
  unfold psF
  cases ok with
  | true =>
    have h1 := h.1 rfl
    rw [dif_pos ⟨x, h1⟩]
    have h2 := (Exists.choose_spec (p := fun y => GS y ∧ TxR y t) ⟨x, h1⟩)
    exact congrArg some (h2.2.same h2.1 h1.1 h1.2)
  | false =>
    rw [dif_neg (fun ⟨y, hy⟩ => h.2 rfl y hy.1 hy.2)]; rfl
/-- A single as a double. -/
def wd (y : Nat) : Nat := FloatKind.f64.format.write (FloatKind.f32.format.read y)
theorem wd_of {y r : Nat} (h : GS y) (hr : cw .f64 r = widen (cw .f32 y)) : r = wd y := by
  rw [cw_some .f32 (Nat.le_of_lt h.2.1)] at hr
  exact cw_out hr
/-- What the reader comes to: 'none': it fails. -/
abbrev St := Nat × List Nd
noncomputable def numF (s : List UInt8) (i : Nat) (out : List Nd) : Option St :=
  if i < figE s i then
    match psF (numT s i) with
    | none => none
    | some y => if (!(numT s i == [48]) && isAt s (numE s i) 105) then some (numE s i + 1, out ++ [⟨1, 0, 0, wd y⟩]) else some (numE s i, out ++ [⟨1, 0, wd y, 0⟩])
  else none
def RdR (w0 wb : World) (s : List UInt8) (w' : World) (i : Nat) (out : List Nd) (r : Option St) : Prop :=
  ∃ i' out', Rd w0 wb s w' i' out' r.isNone ∧ (∀ p, r = some p → p = (i', out')) ∧ i ≤ i' ∧ out'.length + i ≤ out.length + i'
def RdEnd (w0 wb : World) (s : List UInt8) (i : Nat) (out : List Nd) (r : Option St) (e : Ending) (w' : World) : Prop := e = .returned (.tuple #[]) ∧ RdR w0 wb s w' i out r
theorem rd_fail {w0 wb w' : World} {s : List UInt8} {i i' : Nat} {out : List Nd} {r : Option St} (hr : r = none) (h : Rd w0 wb s w' i' out true) (hi : i ≤ i') : RdR w0 wb s w' i out r := by
  subst hr
  exact ⟨i', out, h, fun p hp => (by cases hp), hi, by omega⟩
theorem rd_some {w0 wb w' : World} {s : List UInt8} {i i' : Nat} {out out' : List Nd} {r : Option St} (hr : r = some (i', out')) (h : Rd w0 wb s w' i' out' false) (hi : i ≤ i') (ho : out'.length + i ≤ out.length + i') : RdR w0 wb s w' i out r := by
  subst hr
  exact ⟨i', out', h, fun p hp => (Option.some.inj hp).symm, hi, ho⟩

theorem number_any (w0 wb w : World) (htab : Lib.TabIs Tryd.prog w0 "internal/strconv.uint64pow10" .u64 Lib.pow10Tab) (s : List UInt8) (hs : s.length ≤ 1000000) (i : Nat) (out : List Nd) (h : Rd w0 wb s w i out false) (hlen : out.length ≤ 1000000) :
    Calls Tryd.prog 66 #[.pointer (some ⟨w0.heap.size, 0, none⟩)] w (RdEnd w0 wb s i out (numF s i out)) := by
  have H := Lib.hid h
  have hil := h.le
  obtain ⟨q0, q1, q3, f1, f2, f3⟩ := h.cells
  clear h
  obtain ⟨j, hj⟩ : ∃ j, figE s i = j := ⟨_, rfl⟩
  have HJ := Lib.hid hj
  go_enter Tryd.func66, Tryd.ntmps66
  go_wp2_with fail
  go_at_call 83
  refine (digits_any w0 wb _ s hs i out false H.out).mono ?_
  rintro e w1 ⟨rfl, hr⟩
  rw [hj] at hr ⊢
  have hjl := hr.le
  have HR := Lib.hid hr
  obtain ⟨r0, r1, r3, g1, g2, g3⟩ := hr.cells
  clear hr q0 q1 q3 f1 f2 f3 hj
  by_cases hij : i < j
  · have c0 : decide (i < j) = true := decide_eq_true hij
    go_upto_region 4 with fail
    go_cut [43] (fun c wx => c = .bool (isAt s j 112) ∧ Rd w0 wb s wx j out false)
    case first =>
      by_cases hk : j < s.length
      · have c1 : decide ((j : Int) < (s.length : Int)) = true := decide_eq_true (by omega)
        have hsz : j < (⟨s.toArray⟩ : ByteArray).size := by simpa [ByteArray.size] using hk
        obtain ⟨x, hx⟩ : ∃ x : Nat, ((⟨s.toArray⟩ : ByteArray)[j]'hsz).toNat = x := ⟨_, rfl⟩
        have HX := Lib.hid (show isAt s j 112 = ((x : Int) == 112) by rw [isAt_in hk, show s[j].toNat = x from hx, Bool.eq_iff_iff]; simp; omega)
        go_quiet (fail)
        go_wp2
        go_meet
        exact ⟨by rw [HX.out], by repeat (first | exact HR.out | refine Rd.drewN ?_ _)⟩
      · have c1 : decide ((j : Int) < (s.length : Int)) = false := decide_eq_false (by omega)
        have HX := Lib.hid (show isAt s j 112 = false from isAt_out (by omega))
        go_quiet (fail)
        go_wp2
        go_meet
        exact ⟨by rw [HX.out], by repeat (first | exact HR.out | refine Rd.drewN ?_ _)⟩
    case rest =>
      obtain ⟨rfl, hrc⟩ := hcut
      have HRC := Lib.hid hrc
      obtain ⟨s0, s1, s3, k1, k2, k3⟩ := hrc.cells
      clear hrc
      have hwb := HRC.out.lt
      obtain ⟨e, he⟩ : ∃ e, numE s i = e := ⟨_, rfl⟩
      have HE := Lib.hid he
      clear he
      go_upto_if 43 with fail
      go_cut [] (fun wx => Rd w0 wb s wx e out false)
      case first =>
        cases hp : isAt s j 112
        · have HEJ := Lib.hid (show e = j by rw [← HE.out]; unfold numE; rw [HJ.out, hp]; rfl)
          go_wp2
          go_meet
          rw [HEJ.out]
          exact HRC.out
        · have hjl2 := isAt_lt hp
          have HR1 : Hid (Rd w0 wb s (wc.setCell ⟨w0.heap.size, 1, none⟩ (.int .i64 ((j : Int) + 1))) (j + 1) out false) := Lib.hid (HRC.out.setAt' (by simp) hjl2)
          obtain ⟨t0, t1, t3, l1, l2, l3⟩ := HR1.out.cells
          go_upto_region 6 with fail
          clear s0 s1 s3 k1 k2 k3
          go_cut [72] (fun c wx => c = .bool (isAt s (j + 1) 45) ∧ Rd w0 wb s wx (j + 1) out false)
          case first =>
            by_cases hk : j + 1 < s.length
            · have c1 : decide ((j : Int) + 1 < (s.length : Int)) = true := decide_eq_true (by omega)
              have hsz : j + 1 < (⟨s.toArray⟩ : ByteArray).size := by simpa [ByteArray.size] using hk
              obtain ⟨x, hx⟩ : ∃ x : Nat, ((⟨s.toArray⟩ : ByteArray)[j + 1]'hsz).toNat = x := ⟨_, rfl⟩
              have HX := Lib.hid (show isAt s (j + 1) 45 = ((x : Int) == 45) by rw [isAt_in hk, show s[j + 1].toNat = x from hx, Bool.eq_iff_iff]; simp; omega)
              go_quiet (fail)
              go_wp2
              go_meet
              exact ⟨by rw [HX.out], by repeat (first | exact HR1.out | refine Rd.drewN ?_ _)⟩
            · have c1 : decide ((j : Int) + 1 < (s.length : Int)) = false := decide_eq_false (by omega)
              have HX := Lib.hid (show isAt s (j + 1) 45 = false from isAt_out (by omega))
              go_quiet (fail)
              go_wp2
              go_meet
              exact ⟨by rw [HX.out], by repeat (first | exact HR1.out | refine Rd.drewN ?_ _)⟩
          case rest =>
            obtain ⟨rfl, hrd⟩ := hcut
            have HRD := Lib.hid hrd
            obtain ⟨v0, v1, v3, m1, m2, m3⟩ := hrd.cells
            clear hrd t0 t1 t3 l1 l2 l3 HR1
            cases hm : isAt s (j + 1) 45
            · have HEK := Lib.hid (show e = if j + 1 < figE s (j + 1) then figE s (j + 1) else j by rw [← HE.out]; unfold numE; rw [HJ.out, hp, hm]; rfl)
              clear hp hm
              go_wp2_with fail
              go_at_call 83
              refine (digits_any w0 wb _ s hs (j + 1) out false HRD.out).mono ?_
              rintro e2 w2 ⟨rfl, hr2⟩
              have HR2 := Lib.hid hr2
              obtain ⟨x0, x1, x3, y1, y2, y3⟩ := hr2.cells
              clear hr2
              by_cases hd : j + 1 < figE s (j + 1)
              · have c4 : decide (j + 1 < figE s (j + 1)) = true := decide_eq_true hd
                have HQ := Lib.hid (show e = figE s (j + 1) by rw [HEK.out, if_pos hd])
                go_wp2
                go_meet
                rw [HQ.out]
                exact HR2.out
              · have c4 : decide (j + 1 < figE s (j + 1)) = false := decide_eq_false hd
                have HQ := Lib.hid (show e = j by rw [HEK.out, if_neg hd])
                go_wp2
                go_meet
                rw [HQ.out]
                exact HR2.out.setAt hjl
            · have hjl3 := isAt_lt hm
              have HEK := Lib.hid (show e = if j + 2 < figE s (j + 2) then figE s (j + 2) else j by rw [← HE.out]; unfold numE; rw [HJ.out, hp, hm]; rfl)
              have HRM : Hid (Rd w0 wb s (wc.setCell ⟨w0.heap.size, 1, none⟩ (.int .i64 ((j : Int) + 1 + 1))) (j + 2) out false) := Lib.hid (HRD.out.setAt' (by omega) (by omega))
              clear hp hm
              go_wp2_with fail
              go_at_call 83
              refine (digits_any w0 wb _ s hs (j + 2) out false HRM.out).mono ?_
              rintro e2 w2 ⟨rfl, hr2⟩
              have HR2 := Lib.hid hr2
              obtain ⟨x0, x1, x3, y1, y2, y3⟩ := hr2.cells
              clear hr2
              by_cases hd : j + 2 < figE s (j + 2)
              · have c4 : decide (j + 2 < figE s (j + 2)) = true := decide_eq_true hd
                have HQ := Lib.hid (show e = figE s (j + 2) by rw [HEK.out, if_pos hd])
                go_wp2
                go_meet
                rw [HQ.out]
                exact HR2.out
              · have c4 : decide (j + 2 < figE s (j + 2)) = false := decide_eq_false hd
                have HQ := Lib.hid (show e = j by rw [HEK.out, if_neg hd])
                go_wp2
                go_meet
                rw [HQ.out]
                exact HR2.out.setAt hjl
      case rest =>
        have HRC2 := Lib.hid hcut
        obtain ⟨v0, v1, v3, m1, m2, m3⟩ := hcut.cells
        have hle := numE_le (s := s) hil
        rw [HE.out, HJ.out] at hle
        have hbel := hcut.bel
        have HTC := Lib.hid (tab_on htab hbel)
        clear hcut s0 s1 s3 k1 k2 k3 hbel
        obtain ⟨T, hT⟩ : ∃ T, numT s i = T := ⟨_, rfl⟩
        have HTT := Lib.hid hT
        have htl : T.length ≤ 1000000 := by rw [← hT]; unfold numT; rw [List.length_take, List.length_drop]; omega
        obtain ⟨ch, hh1, hh2⟩ := numT_head hil (show i < figE s i by rw [HJ.out]; exact hij)
        rw [hT] at hh1
        have HH := Lib.hid hh1
        have HMID := Lib.hid (show (⟨s.toArray⟩ : ByteArray).extract i e = ⟨T.toArray⟩ by rw [mid_of, ← hT]; unfold numT; rw [HE.out])
        clear hT hh1
        have g7 : (e < i) = False := eq_false (by omega)
        have g8 : (s.length < e) = False := eq_false (by omega)
        have g9 : (9223372036854775807 < 1 + T.length) = False := eq_false (by omega)
        go_upto_region 10 with fail
        go_quiet (fail)
        go_wp2_with fail
        go_at_call 84
        rw [HMID.out, plus_cat]
        refine (parseSingleI T htl ch HH.out hh2 _ (tab_on HTC.out (bl_drewN (Below.refl _ _) _))).mono ?_
        rintro e5 w5 ⟨x, ok, rfl, hps, hb5⟩
        have HPS := Lib.hid hps
        have HF := Lib.hid (psF_of hps)
        have HR5 := Lib.hid ((HRC2.out.drewN nq).below hb5)
        clear hps hb5 v0 v1 v3 m1 m2 m3
        obtain ⟨v0, v1, v3, m1, m2, m3⟩ := HR5.out.cells
        cases ok
        · have HN := Lib.hid (show numF s i out = none by unfold numF; rw [HJ.out, if_pos hij, HTT.out, HF.out]; rfl)
          have HFF := Lib.hid (HR5.out.setFail)
          go_wp2
          first
            | refine bodyPost_end (results_none rfl _ _ _) rfl ⟨rfl, rd_fail HN.out HFF.out (by omega)⟩
            | refine bodyPost_ret (results_none rfl _ _ _) rfl ⟨rfl, rd_fail HN.out HFF.out (by omega)⟩
        · have HG := Lib.hid (HPS.out.1 rfl).1
          go_upto_region 15 with (refine wpl_widen 109 Tryd.underlying73 Tryd.underlying65 rfl rfl rfl rfl ?_; intro r1 n1 hr1; obtain rfl : r1 = wd x := wd_of HG.out hr1.out.1; clear hr1; have BX := Blk.new_at (w5.drewN n1) 43 #[.int .i64 0, .int .i64 0, .complex .f64 0 0] (g := w5.heap.size) rfl; have p0 := BX.cell 0; have p1 := BX.cell 1; have p2 := BX.cell 2; have o0 := BX.frozen 0; have o1 := BX.frozen 1; have o2 := BX.frozen 2)
          have HR6 : Hid (Rd w0 wb s (((((w5.drewN n1).alloc (.cells #[.int .i64 0, .int .i64 0, .complex .f64 0 0] 43)).setCell ⟨w5.heap.size, 0, none⟩ (.int .i64 1)).setCell ⟨w5.heap.size, 1, none⟩ (.int .i64 0)).setCell ⟨w5.heap.size, 2, none⟩ (.complex .f64 (wd x) 0)) e out false) := Lib.hid (HR5.out.below (by repeat (first | exact Below.refl _ _ | assumption | refine bl_drewN ?_ _ | refine bl_drew ?_ | refine bl_alloc ?_ _ | refine bl_set ?_ (by first | (simp; done) | (simp; omega) | omega | (simp [World.setCell]; done) | (simp [World.setCell]; omega)) _ | refine bl_call ?_ (by assumption))))
          have HX6 : Hid (Blk (((((w5.drewN n1).alloc (.cells #[.int .i64 0, .int .i64 0, .complex .f64 0 0] 43)).setCell ⟨w5.heap.size, 0, none⟩ (.int .i64 1)).setCell ⟨w5.heap.size, 1, none⟩ (.int .i64 0)).setCell ⟨w5.heap.size, 2, none⟩ (.complex .f64 (wd x) 0)) w5.heap.size 43 #[.int .i64 1, .int .i64 0, .complex .f64 (wd x) 0]) := Lib.hid (((BX.set_ 0 _).set_ 1 _).set_ 2 _)
          clear v0 v1 v3 m1 m2 m3 p0 p1 p2 o0 o1 o2 BX
          obtain ⟨v0, v1, v3, m1, m2, m3⟩ := HR6.out.cells
          go_cut [137] (fun c wx => c = .bool (!(T == [48]) && isAt s e 105) ∧ ∃ m, wx = World.drewN (((((w5.drewN n1).alloc (.cells #[.int .i64 0, .int .i64 0, .complex .f64 0 0] 43)).setCell ⟨w5.heap.size, 0, none⟩ (.int .i64 1)).setCell ⟨w5.heap.size, 1, none⟩ (.int .i64 0)).setCell ⟨w5.heap.size, 2, none⟩ (.complex .f64 (wd x) 0)) m)
          case first =>
            cases h48 : (T == [48])
            · have h49 : (T != [48]) = true := by rw [bne, h48]; rfl
              by_cases hk : e < s.length
              · have c1 : decide ((e : Int) < (s.length : Int)) = true := decide_eq_true (by omega)
                have hsz : e < (⟨s.toArray⟩ : ByteArray).size := by simpa [ByteArray.size] using hk
                obtain ⟨z, hz⟩ : ∃ z : Nat, ((⟨s.toArray⟩ : ByteArray)[e]'hsz).toNat = z := ⟨_, rfl⟩
                have HX := Lib.hid (show isAt s e 105 = ((z : Int) == 105) by rw [isAt_in hk, show s[e].toNat = z from hz, Bool.eq_iff_iff]; simp; omega)
                go_quiet (fail)
                go_wp2
                go_meet
                exact ⟨by rw [HX.out, h48]; rfl, _, rfl⟩
              · have c1 : decide ((e : Int) < (s.length : Int)) = false := decide_eq_false (by omega)
                have HX := Lib.hid (show isAt s e 105 = false from isAt_out (by omega))
                go_quiet (fail)
                go_wp2
                go_meet
                exact ⟨by rw [HX.out, h48]; rfl, _, rfl⟩
            · have h49 : (T != [48]) = false := by rw [bne, h48]; rfl
              go_quiet (fail)
              go_wp2
              go_meet
              exact ⟨by rw [h48]; rfl, _, rfl⟩
          case rest =>
            obtain ⟨rfl, m9, hwc⟩ := hcut
            have HR7 : Hid (Rd w0 wb s wc e out false) := Lib.hid (by rw [hwc]; exact HR6.out.drewN m9)
            have HX7 : Hid (Blk wc w5.heap.size 43 #[.int .i64 1, .int .i64 0, .complex .f64 (wd x) 0]) := Lib.hid (by rw [hwc]; exact HX6.out.drewN m9)
            have HB7 : Hid (Below w5.heap.size w5 wc) := Lib.hid (by rw [hwc]; exact bl_drewN (by repeat (first | exact Below.refl _ _ | assumption | refine bl_drewN ?_ _ | refine bl_drew ?_ | refine bl_alloc ?_ _ | refine bl_set ?_ (by first | (simp; done) | (simp; omega) | omega | (simp [World.setCell]; done) | (simp [World.setCell]; omega)) _ | refine bl_call ?_ (by assumption))) m9)
            clear hwc
            have hel := HR7.out.le
            have hsz7 := HR7.out.bel.size
            have hlt7 := HR7.out.lt
            have hgt7 : w5.heap.size < wc.heap.size := HX7.out.lt
            have hnc : w0.heap.size < w5.heap.size := HR5.out.lt
            obtain ⟨v, hb5, hown5, _, hbel5⟩ := HR5.out
            have HOB := Lib.hid (fun g (hg : v.ownBlock = some g) => hown5.lt g hg)
            have HB := Lib.hid (hb5.below HB7.out hnc)
            have HC5 := Lib.hid (hb5.cell 2)
            have HO := Lib.hid (own_below hown5 HB7.out)
            have HBEL := Lib.hid HR7.out.bel
            clear hb5 hown5 hbel5 v0 v1 v3 m1 m2 m3
            obtain ⟨i0, hii, hz0, hz1, hz2⟩ := info_parts A_infoN
            cases hq : (!(T == [48]) && isAt s e 105)
            · have HN := Lib.hid (show numF s i out = some (e, out ++ [⟨1, 0, wd x, 0⟩]) by unfold numF; rw [HJ.out, if_pos hij, HTT.out, HF.out, HE.out, hq]; rfl)
              clear hq
              have b2 := HB.out.cell 2
              have t0 := HX7.out.cell 0
              have t1 := HX7.out.cell 1
              have t2 := HX7.out.cell 2
              have hfr2 := HB.out.frozen 2
              have b2' := (HB.out.alloc (.cells #[.int .i64 1, .int .i64 0, .complex .f64 (wd x) 0] 43)).cell 2
              go_upto_region 18 with fail
              go_region_law (refine step_append_lies _ (by rfl) _ _ 24 (by rfl) (w0.heap.size + 1) 43 i0 (.agg #[.int .i64 0, .int .i64 0, .complex .f64 0 0]) 3 32 Tryd.underlying24 hii hz0 hz1 hz2 rfl (by decide) _ _ _ (by rfl) (own_below HO.out (bl_alloc (Below.drew (Below.refl _ wc)) _)) ⟨wc.heap.size, 0, none⟩ 1 1 (ndCells ⟨1, 0, wd x, 0⟩) (by rfl) (by rfl) (nd_news wc.drew ⟨1, 0, wd x, 0⟩) (nd_one' _) (by decide) (by unfold maxLen; omega) (by omega) (show w0.heap.size + 1 ≤ (wc.alloc _).heap.size by rw [World.size_alloc]; omega) _ (by rfl) ?_; intro g' cap' w9 hown' hgrow hlies _; have HB9 := Lib.hid (blk_grown ((show Blk wc.drew w0.heap.size _ _ from HB.out).alloc _) hgrow (fun hj => by have := (HO.out.lt _ hj.symm).1; omega)); have q9 := HB9.out.cell 2; have f9 := HB9.out.frozen 2; have HNN := Lib.hid (rd_app (x := ⟨1, 0, wd x, 0⟩) (w := wc.drew) HB.out HO.out hel (bl_drew HBEL.out) HR7.out.frm.drew rfl rfl hown' hgrow (by simpa using hlies)); clear hown' hgrow hlies)
              all_goals
                go_wp2
                refine bodyPost_end (results_none rfl _ _ _) rfl ⟨rfl, rd_some HN.out HNN.out (by omega) (by simp; omega)⟩
            · have hie : isAt s e 105 = true := (Bool.and_eq_true_iff.1 hq).2
              have hel2 := isAt_lt hie
              have HN := Lib.hid (show numF s i out = some (e + 1, out ++ [⟨1, 0, 0, wd x⟩]) by unfold numF; rw [HJ.out, if_pos hij, HTT.out, HF.out, HE.out, hq]; rfl)
              clear hq hie
              obtain ⟨v0, v1, v3, m1, m2, m3⟩ := HR7.out.cells
              have HB8 : Hid (∀ n2, Blk (((wc.setCell ⟨w0.heap.size, 1, none⟩ (.int .i64 ((e : Int) + 1))).drewN n2).setCell ⟨w5.heap.size, 2, none⟩ (.complex .f64 0 (wd x))) w0.heap.size 55 #[tx s, .int .i64 ((e + 1 : Nat) : Int), v, .bool false]) := Lib.hid fun n2 => by
                have := ((HB.out.set_ 1 (.int .i64 ((e : Int) + 1))).drewN n2).far (p := ⟨w5.heap.size, 2, none⟩) (by simp; omega) (.complex .f64 0 (wd x))
                simpa using this
              have HX8 : Hid (∀ n2, Blk (((wc.setCell ⟨w0.heap.size, 1, none⟩ (.int .i64 ((e : Int) + 1))).drewN n2).setCell ⟨w5.heap.size, 2, none⟩ (.complex .f64 0 (wd x))) w5.heap.size 43 #[.int .i64 1, .int .i64 0, .complex .f64 0 (wd x)]) := Lib.hid fun n2 =>
                (((HX7.out.far (p := ⟨w0.heap.size, 1, none⟩) (by simp; omega) _).drewN n2).set_ 2 _)
              have HO8 : Hid (∀ n2, World.ownsRow (((wc.setCell ⟨w0.heap.size, 1, none⟩ (.int .i64 ((e : Int) + 1))).drewN n2).setCell ⟨w5.heap.size, 2, none⟩ (.complex .f64 0 (wd x))) (w0.heap.size + 1) 43 3 v out.length (out.flatMap ndCells)) := Lib.hid fun n2 =>
                own_set (own_below (own_set HO.out _ _ (fun g hg => by have := (HOB.out g hg).1; simp; omega)) (bl_drewN (Below.refl _ _) n2)) _ _ (fun g hg => by have := (HOB.out g hg).2; simp; omega)
              have HL8 : Hid (∀ n2, Below w0.heap.size w0 (((wc.setCell ⟨w0.heap.size, 1, none⟩ (.int .i64 ((e : Int) + 1))).drewN n2).setCell ⟨w5.heap.size, 2, none⟩ (.complex .f64 0 (wd x)))) := Lib.hid fun n2 => bl_set (bl_drewN (bl_set HBEL.out (Nat.le_refl _) _) n2) (by simp; omega) _
              have x2 := fun n2 => ((HX7.out.far (p := ⟨w0.heap.size, 1, none⟩) (by simp; omega) (.int .i64 ((e : Int) + 1))).drewN n2).cell 2
              have y2 := fun n2 => ((HX7.out.far (p := ⟨w0.heap.size, 1, none⟩) (by simp; omega) (.int .i64 ((e : Int) + 1))).drewN n2).frozen 2
              go_upto_region 18 with (refine wpl_widen 146 Tryd.underlying73 Tryd.underlying65 rfl rfl rfl rfl ?_; intro r2 n2 hr2; obtain rfl : r2 = wd x := wd_of HG.out hr2.out.1; clear hr2; have x3 := x2 n2; have y3 := y2 n2)
              have hBW := HB8.out n2
              have hXW := HX8.out n2
              have hOW := HO8.out n2
              have hLW := HL8.out n2
              have hFW := HR5.out.frm.trans (Fr.of_kept (kp_far (kp_drewN (kp_set (Kept.of HB7.out) 1 (.int .i64 ((e : Int) + 1))) n2) (p := ⟨w5.heap.size, 2, none⟩) (Nat.le_refl _) (.complex .f64 0 (wd x))) ((hBW.cell 2).trans HC5.out.symm))
              generalize (((wc.setCell ⟨w0.heap.size, 1, none⟩ (.int .i64 ((e : Int) + 1))).drewN n2).setCell ⟨w5.heap.size, 2, none⟩ (.complex .f64 0 (wd x))) = W at hBW hXW hOW hLW hFW ⊢
              have HBW := Lib.hid hBW
              have HOW := Lib.hid hOW
              have HLW := Lib.hid hLW
              have HFW := Lib.hid hFW
              have hltW := hBW.lt
              have b2 := hBW.cell 2
              have t0 := hXW.cell 0
              have t1 := hXW.cell 1
              have t2 := hXW.cell 2
              have hfr2 := hBW.frozen 2
              have b2' := (hBW.alloc (.cells #[.int .i64 1, .int .i64 0, .complex .f64 0 (wd x)] 43)).cell 2
              clear hBW hXW hOW hLW hFW x2 y2 x3 y3 v0 v1 v3 m1 m2 m3
              go_region_law (refine step_append_lies _ (by rfl) _ _ 24 (by rfl) (w0.heap.size + 1) 43 i0 (.agg #[.int .i64 0, .int .i64 0, .complex .f64 0 0]) 3 32 Tryd.underlying24 hii hz0 hz1 hz2 rfl (by decide) _ _ _ (by rfl) (own_below HOW.out (bl_alloc (Below.drew (Below.refl _ W)) _)) ⟨W.heap.size, 0, none⟩ 1 1 (ndCells ⟨1, 0, 0, wd x⟩) (by rfl) (by rfl) (nd_news W.drew ⟨1, 0, 0, wd x⟩) (nd_one' _) (by decide) (by unfold maxLen; omega) (by omega) (show w0.heap.size + 1 ≤ (W.alloc _).heap.size by rw [World.size_alloc]; omega) _ (by rfl) ?_; intro g' cap' w9 hown' hgrow hlies _; have HB9 := Lib.hid (blk_grown ((show Blk W.drew w0.heap.size _ _ from HBW.out).alloc _) hgrow (fun hj => by have := (HOW.out.lt _ hj.symm).1; omega)); have q9 := HB9.out.cell 2; have f9 := HB9.out.frozen 2; have HNN := Lib.hid (rd_app (x := ⟨1, 0, 0, wd x⟩) (w := W.drew) HBW.out HOW.out hel2 (bl_drew HLW.out) HFW.out.drew rfl rfl hown' hgrow (by simpa using hlies)); clear hown' hgrow hlies)
              all_goals
                go_wp2
                refine bodyPost_end (results_none rfl _ _ _) rfl ⟨rfl, rd_some HN.out HNN.out (by omega) (by simp; omega)⟩
  · have c0 : decide (i < j) = false := decide_eq_false hij
    have HN := Lib.hid (show numF s i out = none by unfold numF; rw [HJ.out, if_neg hij])
    have HF := Lib.hid (HR.out.setFail)
    go_wp2
    first
      | refine bodyPost_end (results_none rfl _ _ _) rfl ⟨rfl, rd_fail HN.out HF.out (by have := figE_ge s i; have := HJ.out; omega)⟩
      | refine bodyPost_ret (results_none rfl _ _ _) rfl ⟨rfl, rd_fail HN.out HF.out (by have := figE_ge s i; have := HJ.out; omega)⟩
end Go.Proofs.YtjgjgjkffoagoaaDoor
