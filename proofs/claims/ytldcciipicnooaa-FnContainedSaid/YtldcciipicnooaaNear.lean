/- The middle of two singles that follow each other; the draw of a single; the law's own sameness of singles. -/
import Derived.Test.YtldcciipicnooaaRound
import Derived.Test.YtldcciipicnooaaDrawU
import Derived.Test.YtldcciipicnooaaQuant
namespace Go.Proofs.Ytldcciipicnooaa
open Go.RowKit
attribute [local go_sem] run_neg_float run_neg_complex

theorem val_key (k : FloatKind) (x : Nat) : val k x = if 0 ≤ key k x then rval k.format (key k x).toNat else -rval k.format (-key k x).toNat := by
  unfold val key
  cases sg k.format x <;> simp only [Bool.false_eq_true, if_false, if_true]
  · rw [if_pos (by omega)]; congr 1
  · by_cases h : ru k.format x = 0
    · rw [h]; simp [rval_zero]
    · rw [if_neg (by omega)]; congr 2; omega

theorem rval_succ (r : Nat) : ∃ S E, S < 2 * FloatKind.f32.format.binade ∧ E = FloatKind.f32.format.leastPlace + (expo FloatKind.f32.format r : Int) ∧ rval FloatKind.f32.format r = vOf S E ∧ rval FloatKind.f32.format (r + 1) = vOf (S + 1) E := by
  obtain ⟨d1, d2, d3⟩ := digits FloatKind.f32.format r
  refine ⟨_, _, d2, rfl, rfl, ?_⟩
  have h := rval_kept FloatKind.f32.format (expo FloatKind.f32.format r) (r - expo FloatKind.f32.format r * FloatKind.f32.format.binade + 1) (by omega) (by omega)
  rw [show expo FloatKind.f32.format r * FloatKind.f32.format.binade + (r - expo FloatKind.f32.format r * FloatKind.f32.format.binade + 1) = r + 1 by omega] at h
  exact h
theorem expo_le {r : Nat} (h : r < FloatKind.f32.format.infRung) : expo FloatKind.f32.format r ≤ 254 := by
  unfold expo
  rw [i32] at h
  rw [b32]
  have : r / 8388608 ≤ 255 := by omega
  omega

theorem vOf_two (S : Nat) (E : Int) : vOf S E + vOf (S + 1) E = vOf (2 * S + 1) E := by
  unfold vOf
  rw [Rat.natCast_add, Rat.natCast_add, Rat.natCast_mul]; grind

/-- Half of a sum of two doubles. -/
theorem half_sum {a b s p S : Nat} {E : Int} {t : Bool} (fa : ru FloatKind.f64.format a < FloatKind.f64.format.infRung) (fb : ru FloatKind.f64.format b < FloatKind.f64.format.infRung)
    (hS : S < 2 ^ 53) (hE1 : -1073 ≤ E) (hE2 : E ≤ 800) (hsum : val .f64 a + val .f64 b = sv t (vOf S E)) (h0 : 0 < S)
    (hs : cw .f64 s = arithR .add .f64 (cw .f64 a) (cw .f64 b)) (hp : cw .f64 p = arithR .quo .f64 (cw .f64 s) (cw .f64 4611686018427387904)) :
    ru FloatKind.f64.format p < FloatKind.f64.format.infRung ∧ val .f64 p = sv t (vOf S (E - 1)) := by
  rw [floatBits_cw] at hs
  obtain ⟨u, m, q, e1, v1, _⟩ := sum_fin .f64 fa fb
  rw [e1] at hs
  obtain rfl := cw_out hs
  have hpos := vOf_pos E h0
  have hnn := vOf_nonneg m q
  have hut : u = t ∧ vOf m q = vOf S E := by
    rw [hsum] at v1
    cases u <;> cases t
    · exact ⟨rfl, v1⟩
    · exfalso
      have : vOf m q = -(vOf S E) := v1
      grind
    · exfalso
      have : -(vOf m q) = vOf S E := v1
      grind
    · exact ⟨rfl, ratNegInj v1⟩
  obtain ⟨rfl, hv⟩ := hut
  obtain ⟨f1, f2⟩ := rung_fits (m := S) (p := E) hS (by omega) (by omega)
  have hru : ru FloatKind.f64.format (FloatKind.f64.format.write (.number u m q)) = rungOf FloatKind.f64.format S E := by
    rw [ru_write, rung_congr _ hv]; omega
  have hsg := sg_write .f64 u m q
  generalize FloatKind.f64.format.write (.number u m q) = s at *
  rw [floatBits_cw] at hp
  obtain ⟨n, j, e2, v2⟩ := div_two (x := s) (by rw [hru]; exact f2)
  rw [e2] at hp
  obtain rfl := cw_out hp
  have hd := vOf_pred S E
  rw [hru, f1, ← hd] at v2
  have hv2 : vOf n j = vOf S (E - 1) := by
    have h4 : (vOf n j - vOf S (E - 1)) * 2 = 0 := by grind
    grind
  obtain ⟨g1, g2⟩ := rung_fits (m := S) (p := E - 1) hS (by omega) (by omega)
  have hrp : ru FloatKind.f64.format (FloatKind.f64.format.write (.number (sg FloatKind.f64.format s) n j)) = rungOf FloatKind.f64.format S (E - 1) := by
    rw [ru_write, rung_congr _ hv2]; omega
  refine ⟨by rw [hrp]; exact g2, ?_⟩
  unfold val
  rw [hrp, g1, sg_write, hsg]; rfl

/-- THE MIDDLE of two singles that follow each other. -/
theorem mid_facts {x y a b s p : Nat} (fx : ru FloatKind.f32.format x < FloatKind.f32.format.infRung) (fy : ru FloatKind.f32.format y < FloatKind.f32.format.infRung) (hk : key .f32 y = key .f32 x + 1)
    (ha : cw .f64 a = widen (cw .f32 x)) (hb : cw .f64 b = widen (cw .f32 y)) (hs : cw .f64 s = arithR .add .f64 (cw .f64 a) (cw .f64 b)) (hp : cw .f64 p = arithR .quo .f64 (cw .f64 s) (cw .f64 4611686018427387904)) :
    ru FloatKind.f64.format p < FloatKind.f64.format.infRung ∧ val .f32 x < val .f64 p ∧ val .f64 p < val .f32 y := by
  obtain ⟨a1, a2, _⟩ := widen_val fx ha
  obtain ⟨b1, b2, _⟩ := widen_val fy hb
  have kx := key_fin fx
  have ky := key_fin fy
  have hv1 := val_key .f32 x
  have hv2 := val_key .f32 y
  rcases Int.lt_or_le (key .f32 x) 0 with hneg | hpos
  · obtain ⟨S, E, h1, h2, h3, h4⟩ := rval_succ (-key .f32 y).toNat
    have hex := expo_le (r := (-key .f32 y).toNat) (by rw [i32]; omega)
    rw [l32] at h2
    rw [b32] at h1
    rw [if_neg (by omega), show (-key .f32 x).toNat = (-key .f32 y).toNat + 1 by omega, h4] at hv1
    have hv2' : val .f32 y = -vOf S E := by
      rw [hv2]
      by_cases hz : key .f32 y = 0
      · rw [← h3, hz]; simp [rval_zero]
      · rw [if_neg (by omega), h3]
    have hlt : vOf S E < vOf (S + 1) E := by rw [← h3, ← h4]; exact rval_lt _ (by omega)
    have h2s := vOf_two S E
    obtain ⟨g1, g2⟩ := half_sum (t := true) (S := 2 * S + 1) (E := E) a1 b1 (by omega) (by omega) (by omega) (by rw [a2, b2, hv1, hv2']; show _ = -vOf (2 * S + 1) E; grind) (by omega) hs hp
    have hd := vOf_pred (2 * S + 1) E
    refine ⟨g1, ?_, ?_⟩
    · rw [g2, hv1]; show _ < -vOf (2 * S + 1) (E - 1); grind
    · rw [g2, hv2']; show -vOf (2 * S + 1) (E - 1) < _; grind
  · obtain ⟨S, E, h1, h2, h3, h4⟩ := rval_succ (key .f32 x).toNat
    have hex := expo_le (r := (key .f32 x).toNat) (by rw [i32]; omega)
    rw [l32] at h2
    rw [b32] at h1
    rw [if_pos hpos, h3] at hv1
    rw [if_pos (by omega), show (key .f32 y).toNat = (key .f32 x).toNat + 1 by omega, h4] at hv2
    have hlt : vOf S E < vOf (S + 1) E := by rw [← h3, ← h4]; exact rval_lt _ (by omega)
    have h2s := vOf_two S E
    obtain ⟨g1, g2⟩ := half_sum (t := false) (S := 2 * S + 1) (E := E) a1 b1 (by omega) (by omega) (by omega) (by rw [a2, b2, hv1, hv2]; exact h2s) (by omega) hs hp
    have hd := vOf_pred (2 * S + 1) E
    refine ⟨g1, ?_, ?_⟩
    · rw [g2, hv1]; show _ < vOf (2 * S + 1) (E - 1); grind
    · rw [g2, hv2]; show vOf (2 * S + 1) (E - 1) < _; grind

theorem rd_here {x y p d : Nat} (fx : ru FloatKind.f32.format x < FloatKind.f32.format.infRung) (hk : key .f32 y = key .f32 x + 1) (h1 : val .f32 x < val .f64 p) (h2 : val .f64 p < val .f32 y) (h : RdR p d) : key .f32 d = key .f32 x := by
  have a := h.2.2 x fx (by grind)
  have b := (key_val_lt .f32 d y).1 (by have := h.2.1; grind)
  omega
theorem ru_here {x y p d : Nat} (fy : ru FloatKind.f32.format y < FloatKind.f32.format.infRung) (hk : key .f32 y = key .f32 x + 1) (h1 : val .f32 x < val .f64 p) (h2 : val .f64 p < val .f32 y) (h : RuR p d) : key .f32 d = key .f32 y := by
  have a := h.2.2 y fy (by grind)
  have b := (key_val_lt .f32 x d).1 (by have := h.2.1; grind)
  omega
theorem eq_key {x y : Nat} (hx : ru FloatKind.f32.format x ≤ FloatKind.f32.format.infRung) (hy : ru FloatKind.f32.format y ≤ FloatKind.f32.format.infRung) (h : key .f32 x = key .f32 y) : FloatKind.f32.format.order x y = some .eq := by
  rw [order_key .f32 hx hy, h]
  congr 1
  exact Int.compare_eq_eq.2 rfl

/-- 'x - x', at a single. -/
theorem fine32 (b r : Nat) (h : cw .f32 r = arithR .sub .f32 (cw .f32 b) (cw .f32 b)) : (FloatKind.f32.format.order r 0 == some .eq) = finB .f32 b := by
  rw [floatBits_cw] at h
  have h0 : ru FloatKind.f32.format 0 ≤ FloatKind.f32.format.infRung := by rw [ru_zero]; exact Nat.zero_le _
  unfold finB
  rcases Nat.lt_trichotomy (ru FloatKind.f32.format b) FloatKind.f32.format.infRung with hb | hb | hb
  · obtain ⟨s, m, p, e, v, _⟩ := sub_fin .f32 hb hb
    rw [e] at h
    have hr := cw_out h
    have hv : vOf m p = 0 := by
      have : sv s (vOf m p) = 0 := by rw [v]; grind
      cases s
      · exact this
      · have h2 : -(vOf m p) = 0 := this
        grind
    have hz : ru FloatKind.f32.format r = 0 := by rw [hr, ru_write, rung_zero _ hv]; omega
    rw [ord_eq .f32 (by rw [hz]; exact Nat.zero_le _) h0, key_zero .f32 hz, key_zero .f32 (ru_zero .f32)]
    simp [hb]
  · have e : floatBits .sub .f32 b b = none := by
      show ((FloatKind.f32.format.read b).sum (FloatKind.f32.format.read b).opposite).map _ = none
      rw [read_inf .f32 hb]
      cases sg FloatKind.f32.format b <;> rfl
    rw [e] at h
    have hr : FloatKind.f32.format.infRung < ru FloatKind.f32.format r := by
      rcases cw_cases .f32 r with ⟨_, h3⟩ | ⟨h3, _⟩
      · exact h3
      · rw [h3] at h; cases h
    rw [order_nan_left .f32 hr]
    simp; omega
  · have e : floatBits .sub .f32 b b = none := floatBits_nan_left .sub .f32 b b (by rw [isNaN_iff .f32]; simpa using hb)
    rw [e] at h
    have hr : FloatKind.f32.format.infRung < ru FloatKind.f32.format r := by
      rcases cw_cases .f32 r with ⟨_, h3⟩ | ⟨h3, _⟩
      · exact h3
      · rw [h3] at h; cases h
    rw [order_nan_left .f32 hr]
    simp; omega
theorem fine32_ne {b r : Nat} {f : Bool} (hf : finB .f32 b = f) (h : cw .f32 r = arithR .sub .f32 (cw .f32 b) (cw .f32 b)) : (FloatKind.f32.format.order r 0 != some .eq) = !f := by
  rw [← hf, ← fine32 b r h]; rfl

theorem one_read : FloatKind.f64.format.read 4607182418800017408 = .number false 4503599627370496 (-52) := by decide
theorem one_over {a r s : Nat} (hz : ru FloatKind.f64.format a = 0) (hr : cw .f64 r = arithR .quo .f64 (cw .f64 4607182418800017408) (cw .f64 a)) (hs : cw .f64 s = arithR .quo .f64 (cw .f64 4607182418800017408) (cw .f64 a)) : (FloatKind.f64.format.order r s == some .eq) = true := by
  have e : floatBits .quo .f64 4607182418800017408 a = some (FloatKind.f64.format.write (.infinity (sg FloatKind.f64.format a))) := by
    show ((FloatKind.f64.format.read 4607182418800017408).quotient 54 (FloatKind.f64.format.read a)).map _ = _
    rw [one_read, read_eq, if_pos (by rw [hz]; exact binade_pos _), hz]
    unfold Ieee.Datum.quotient
    simp
  rw [floatBits_cw, e] at hr hs
  have h1 := cw_out hr
  have h2 := cw_out hs
  have e2 : FloatKind.f64.format.write (.infinity (sg FloatKind.f64.format a)) = FloatKind.f64.format.word (sg FloatKind.f64.format a) FloatKind.f64.format.infRung := rfl
  rw [h1, h2, order_self (by rw [e2, ru_word _ _ (inf_lt .f64)]; exact Nat.le_refl _)]
  rfl

set_option maxHeartbeats 400000 in
theorem same64_same (a b : Nat) (w : World) (h : cw .f64 a = cw .f64 b) :
    Calls Try.prog 55 #[.float .f64 a, .float .f64 b] w fun e w' => e = .returned (.bool true) ∧ ∃ n, w' = w.drewN n := by
  rcases cw_cases .f64 a with ⟨a1, a2⟩ | ⟨a1, a2⟩
  · rcases cw_cases .f64 b with ⟨b1, b2⟩ | ⟨b1, b2⟩
    · have e1 : (FloatKind.f64.format.order a a != some .eq) = true := by rw [order_nan_left .f64 a2]; rfl
      have e2 : (FloatKind.f64.format.order b b != some .eq) = true := by rw [order_nan_left .f64 b2]; rfl
      clear h a1 b1 a2 b2
      go_enter Try.func55, Try.ntmps55
      go_wp2
      go_ret
      exact ⟨rfl, 0, rfl⟩
    · rw [a1, b1] at h; cases h
  · rcases cw_cases .f64 b with ⟨b1, b2⟩ | ⟨b1, b2⟩
    · rw [a1, b1] at h; cases h
    · rw [a1, b1] at h; cases h
      have e1 : (FloatKind.f64.format.order a a != some .eq) = false := by rw [order_self a2]; rfl
      have e2 : (FloatKind.f64.format.order a a == some .eq) = true := by rw [order_self a2]; rfl
      by_cases h0 : (FloatKind.f64.format.order a 0 == some .eq) = true
      · have h1 : (FloatKind.f64.format.order a 0 != some .eq) = false := by
          rw [bne, h0]; rfl
        have hz : Hid (ru FloatKind.f64.format a = 0) := Lib.hid (by
          rw [ord_eq .f64 a2 (by decide)] at h0
          have k := of_decide_eq_true h0
          have k3 : key .f64 0 = 0 := by decide
          rw [k3] at k
          unfold key at k
          split at k <;> omega)
        clear a1 b1 a2 b2 h0
        go_enter Try.func55, Try.ntmps55
        go_wp2_with (first | (refine wpl_farith 29 rfl rfl rfl rfl rfl rfl ?_; intro r1 n1 hr1) | (refine wpl_farith 31 rfl rfl rfl rfl rfl rfl ?_; intro r2 n2 hr2))
        go_ret
        exact ⟨congrArg (fun x => Ending.returned (Value.bool x)) (one_over hz.out hr1.out.1 hr2.out.1), _, rfl⟩
      · clear a1 b1 a2 b2
        have h1 : (FloatKind.f64.format.order a 0 == some .eq) = false := by simpa using h0
        have h2 : (FloatKind.f64.format.order a 0 != some .eq) = true := by rw [bne, h1]; rfl
        clear h0
        go_enter Try.func55, Try.ntmps55
        go_wp2
        go_ret
        exact ⟨rfl, 0, rfl⟩
theorem same32_same (a b : Nat) (w : World) (h : cw .f32 a = cw .f32 b) :
    Calls Try.prog 21 #[.float .f32 a, .float .f32 b] w fun e w' => e = .returned (.bool true) ∧ ∃ n, w' = w.drewN n := by
  have H := Lib.hid h
  clear h
  go_enter Try.func21, Try.ntmps21
  go_wp2_with (first | (refine wpl_widen 6 Try.underlying24 Try.underlying39 rfl rfl rfl rfl ?_; intro r1 n1 hr1) | (refine wpl_widen 8 Try.underlying24 Try.underlying39 rfl rfl rfl rfl ?_; intro r2 n2 hr2) | (go_at_call 55; (with_reducible refine (same64_same _ _ _ (by rw [hr1.out.1, hr2.out.1, H.out])).mono ?_); rintro e w4 ⟨rfl, m2, rfl⟩))
  go_ret
  exact ⟨rfl, _, rfl⟩

theorem makeF_lt (s : List UInt8) (m e : Int) : (makeF s m e).1 < 2 ^ 32 := by
  rcases h : makeF s m e with ⟨v, b⟩
  cases b
  · have : v = 0 := by
      unfold makeF at h
      split at h
      · unfold signedF at h
        split at h
        · injection h with _ h2; cases h2
        · split at h
          · injection h with _ h2; cases h2
          · injection h with h1 _; exact h1.symm
      · injection h with h1 _; exact h1.symm
    subst this; decide
  · exact (make_word h).1
set_option maxRecDepth 100000 in
theorem l01Mild_w (c : Nat) (w : World) (H : CurOk c w) :
    Calls Try.prog 76 #[.pointer (some ⟨c, 0, none⟩)] w fun e w' => ∃ x, e = .returned (.float .f32 x) ∧ x < 2 ^ 32 ∧ CurEnd c w w' := by
  have hc := H.lt
  go_enter Try.func76, Try.ntmps76
  go_wp2_with (first | (go_at_call 57; (with_reducible refine (l01Below_i c _ 400 _ (by assumption) (by decide) (by decide) (by decide)).mono ?_); rintro e w1 ⟨k, rfl, hk0, hc1, hk1⟩; have hz1 := hc1.lt) | (go_at_call 73; (with_reducible refine (l01PickInt_any c _ 7 _ [1, 1, 2, 4, 3, 10, 16] _ (hc1.below (by repeat (first | exact Below.refl _ _ | assumption | refine bl_drewN ?_ _ | refine bl_drew ?_ | refine bl_alloc ?_ _ | refine bl_set ?_ (by first | (simp; done) | (simp; omega) | omega | (simp [World.setCell]; done) | (simp [World.setCell]; omega)) _ | refine bl_call ?_ (by assumption)))) (by with_unfolding_all rfl) (by decide) (by decide) (by decide) (Blk.new_at _ _ _ rfl) (by omega)).mono ?_); rintro e w2 ⟨m, hm, rfl, hc2, hk2⟩; have hz2 := hc2.lt) | (refine wpl_farith 11 rfl rfl rfl rfl rfl rfl ?_; intro r1 n1 hr1))
  go_ret
  exact ⟨_, rfl, hr1.out.2, hc2, by repeat (first | exact Kept.refl _ _ | assumption | refine kp_drewN ?_ _ | refine kp_alloc ?_ _ | refine kp_set ?_ _ _ | refine kp_bl ?_ (by assumption) | refine kp_call ?_ (by assumption) | refine kp_drew ?_)⟩
set_option maxRecDepth 100000 in
theorem l01Single_w (c : Nat) (w : World) (H : CurOk c w) :
    Calls Try.prog 51 #[.pointer (some ⟨c, 0, none⟩)] w fun e w' => ∃ x, e = .returned (.float .f32 x) ∧ x < 2 ^ 32 ∧ CurEnd c w w' := by
  have hc := H.lt
  go_enter Try.func51, Try.ntmps51
  go_wp2_with (first | (go_at_call 57; (with_reducible refine (l01Below_i c _ 16 _ (by first | assumption | exact CurOk.below (by assumption) (by repeat (first | exact Below.refl _ _ | assumption | refine bl_drewN ?_ _ | refine bl_drew ?_ | refine bl_alloc ?_ _ | refine bl_set ?_ (by first | (simp; done) | (simp; omega) | omega | (simp [World.setCell]; done) | (simp [World.setCell]; omega)) _ | refine bl_call ?_ (by assumption)))) (by decide) (by decide) (by decide)).mono ?_); rintro e w1 ⟨k1, rfl, hk10, hc1, hk1⟩; have hz1 := hc1.lt) | (go_at_call 57; (with_reducible refine (l01Below_i c _ 16777215 _ (by first | assumption | exact CurOk.below (by assumption) (by repeat (first | exact Below.refl _ _ | assumption | refine bl_drewN ?_ _ | refine bl_drew ?_ | refine bl_alloc ?_ _ | refine bl_set ?_ (by first | (simp; done) | (simp; omega) | omega | (simp [World.setCell]; done) | (simp [World.setCell]; omega)) _ | refine bl_call ?_ (by assumption)))) (by decide) (by decide) (by decide)).mono ?_); rintro e w2 ⟨k2, rfl, hk20, hc2, hk2⟩; have hz2 := hc2.lt) | (go_at_call 57; (with_reducible refine (l01Below_i c _ 230 _ (by first | assumption | exact CurOk.below (by assumption) (by repeat (first | exact Below.refl _ _ | assumption | refine bl_drewN ?_ _ | refine bl_drew ?_ | refine bl_alloc ?_ _ | refine bl_set ?_ (by first | (simp; done) | (simp; omega) | omega | (simp [World.setCell]; done) | (simp [World.setCell]; omega)) _ | refine bl_call ?_ (by assumption)))) (by decide) (by decide) (by decide)).mono ?_); rintro e w3 ⟨k3, rfl, hk30, hc3, hk3⟩; have hz3 := hc3.lt) | (go_at_call 57; (with_reducible refine (l01Below_i c _ 40 _ (by first | assumption | exact CurOk.below (by assumption) (by repeat (first | exact Below.refl _ _ | assumption | refine bl_drewN ?_ _ | refine bl_drew ?_ | refine bl_alloc ?_ _ | refine bl_set ?_ (by first | (simp; done) | (simp; omega) | omega | (simp [World.setCell]; done) | (simp [World.setCell]; omega)) _ | refine bl_call ?_ (by assumption)))) (by decide) (by decide) (by decide)).mono ?_); rintro e w3 ⟨k3, rfl, hk30, hc3, hk3⟩; have hz3 := hc3.lt) | (refine wpl_farith 22 rfl rfl rfl rfl rfl rfl ?_; intro r1 n1 hr1) | (refine wpl_farith 26 rfl rfl rfl rfl rfl rfl ?_; intro r1 n1 hr1) | (refine wpl_farith 31 rfl rfl rfl rfl rfl rfl ?_; intro r1 n1 hr1) | (go_at_call 61; (with_reducible refine (makeS_any _ _ _ _).mono ?_); rintro e w4 ⟨rfl, n4, rfl⟩) | (go_at_call 76; (with_reducible refine (l01Mild_w c _ (by assumption)).mono ?_); rintro e w5 ⟨x5, rfl, hx5, hc5, hk5⟩))
  all_goals
    go_ret
    refine ⟨_, rfl, ?_, ?_, by repeat (first | exact Kept.refl _ _ | assumption | refine kp_drewN ?_ _ | refine kp_alloc ?_ _ | refine kp_set ?_ _ _ | refine kp_bl ?_ (by assumption) | refine kp_call ?_ (by assumption) | refine kp_drew ?_)⟩
    · first | exact hr1.out.2 | exact makeF_lt _ _ _ | exact hx5 | (with_unfolding_all decide)
    · first | assumption | (refine CurOk.below ?_ (by repeat (first | exact Below.refl _ _ | assumption | refine bl_drewN ?_ _ | refine bl_drew ?_ | refine bl_alloc ?_ _ | refine bl_set ?_ (by first | (simp; done) | (simp; omega) | omega | (simp [World.setCell]; done) | (simp [World.setCell]; omega)) _ | refine bl_call ?_ (by assumption))); assumption)
set_option maxRecDepth 100000 in
theorem drawSingle_any (A : Option Addr) (len cap : Nat) (w : World) (hlen : len ≤ maxLen) (hrow : RowOk w.heap.size w A len) :
    Calls Try.prog 19 #[.slice A len cap] w fun e w' => ∃ x, e = .returned (.float .f32 x) ∧ x < 2 ^ 32 ∧ Below w.heap.size w w' := by
  go_enter Try.func19, Try.ntmps19
  go_wp2_with (first | (go_at_call 52; (with_reducible refine (l01New_any A len cap _ hlen hrow).mono ?_); rintro e w1 ⟨rfl, hc1, hb1⟩; have hz1 := hc1.lt) | (go_at_call 51; (with_reducible refine (l01Single_w _ _ hc1).mono ?_); rintro e w2 ⟨x, rfl, hx, hc2, hk2⟩; have HX := Lib.hid hx; clear hx))
  go_ret
  exact ⟨x, rfl, HX.out, bl_kept hb1 hk2 (Nat.le_refl _)⟩
end Go.Proofs.Ytldcciipicnooaa
