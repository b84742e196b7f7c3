/- The parts of a single and the next single: that these functions of the reference come back (what they answer is not told). -/
import Derived.Test.YtldcciipicnooaaNew
import Derived.Test.YtldcciipicnooaaQuant
namespace Go.Proofs.Ytldcciipicnooaa
open Go.RowKit
attribute [local go_sem] run_neg_float run_neg_complex

theorem c24 : Is 4715268809856909312 16777216 0 := by
  have h : (4715268809856909312 : Nat) = FloatKind.f64.format.write (.number false 16777216 0) := by decide
  rw [h]; exact Is.write rfl (by decide) (by omega) (by omega)
theorem c23 : Is 4710765210229538816 8388608 0 := by
  have h : (4710765210229538816 : Nat) = FloatKind.f64.format.write (.number false 8388608 0) := by decide
  rw [h]; exact Is.write rfl (by decide) (by omega) (by omega)
theorem Is.key {b m : Nat} {p : Int} (h : Is b m p) : key .f64 b = ru FloatKind.f64.format b := key_pos .f64 h.2.1
theorem Is.lt_ {a c m n : Nat} {p q : Int} (h : Is a m p) (h' : Is c n q) : (FloatKind.f64.format.order a c == some .lt) = decide (vOf m p < vOf n q) := by
  rw [ord_lt .f64 (Nat.le_of_lt h.2.2.1) (Nat.le_of_lt h'.2.2.1), h.key, h'.key, ← h.2.2.2, ← h'.2.2.2]
  rw [Bool.eq_iff_iff]
  simp only [decide_eq_true_eq]
  rw [rval_lt_iff]
  omega
theorem Is.ge_ {a c m n : Nat} {p q : Int} (h : Is a m p) (h' : Is c n q) : (FloatKind.f64.format.order a c == some .gt || FloatKind.f64.format.order a c == some .eq) = decide (vOf n q ≤ vOf m p) := by
  rw [ord_gt .f64 (Nat.le_of_lt h.2.2.1) (Nat.le_of_lt h'.2.2.1), ord_eq .f64 (Nat.le_of_lt h.2.2.1) (Nat.le_of_lt h'.2.2.1), h.key, h'.key, ← h.2.2.2, ← h'.2.2.2]
  rw [Bool.eq_iff_iff]
  simp only [decide_eq_true_eq, Bool.or_eq_true]
  have := @rval_lt_iff FloatKind.f64.format (ru FloatKind.f64.format a) (ru FloatKind.f64.format c)
  rw [← Rat.not_lt, this]
  omega
theorem vOf_nat (n : Nat) : vOf n 0 = (n : Rat) := by unfold vOf; rw [pw_zero]; grind
/-- A number with few digits that is not below 2^24 has a power of two above it. -/
theorem ge_pos {m : Nat} {p : Int} (hm : m < 16777216) (h : vOf 16777216 0 ≤ vOf m p) : 0 < p := by
  rcases Int.lt_or_le 0 p with h1 | h1
  · exact h1
  · exfalso
    have h2 : vOf m p ≤ vOf m 0 := by
      unfold vOf
      exact Rat.mul_le_mul_of_nonneg_left (pw_le h1) (by exact Rat.natCast_nonneg)
    rw [vOf_nat] at h h2
    have h3 : ((16777216 : Nat) : Rat) ≤ (m : Rat) := by grind
    have := Rat.natCast_le_natCast.1 h3
    omega
theorem lt_dbl {m : Nat} {p : Int} (h : vOf m p < vOf 8388608 0) : vOf m (p + 1) < vOf 16777216 0 := by
  rw [← vOf_succ]
  rw [vOf_nat] at h ⊢
  have h1 : ((16777216 : Nat) : Rat) = ((8388608 : Nat) : Rat) * 2 := by simp; grind
  rw [h1]; grind
theorem small_toInt {a m : Nat} {p : Int} (h : Is a m p) (hv : vOf m p < vOf 16777216 0) : ∃ n : Int, floatToIntVal .f64 a .i64 = some n := by
  have hf : flN (rval FloatKind.f64.format (ru FloatKind.f64.format a)) ≤ 2000000000 := by
    obtain ⟨g, _⟩ := flN_spec (v := rval FloatKind.f64.format (ru FloatKind.f64.format a)) (rval_nonneg _ _)
    rw [h.2.2.2] at g ⊢
    rw [vOf_nat] at hv
    have h3 : ((flN (vOf m p) : Nat) : Rat) < ((16777216 : Nat) : Rat) := by grind
    have := Rat.natCast_lt_natCast.1 h3
    omega
  exact ⟨_, toIntVal h.2.2.1 hf⟩
theorem single_is {x r : Nat} (hx : ru FloatKind.f32.format x < FloatKind.f32.format.infRung) (hs : sg FloatKind.f32.format x = false) (hr : cw .f64 r = widen (cw .f32 x)) (hl : r < 2 ^ 64) :
    ∃ (m : Nat) (p : Int), m < 16777216 ∧ -149 ≤ p ∧ p ≤ 104 ∧ Is r m p := by
  rcases widen_cases hr with ⟨h1, _⟩ | ⟨h1, _⟩ | ⟨_, h2, h3, h4⟩
  · omega
  · omega
  · obtain ⟨m, p, e, v⟩ := read_fin FloatKind.f32.format hx
    obtain ⟨g1, g2, g3⟩ := read_mag FloatKind.f32.format x e
    refine ⟨m, p, ?_, ?_, ?_, hl, by rw [h3, hs], h2, ?_⟩
    · have : 2 * FloatKind.f32.format.binade = 16777216 := by decide
      omega
    · have : FloatKind.f32.format.leastPlace = -149 := by decide
      omega
    · have h5 : FloatKind.f32.format.leastPlace = -149 := by decide
      have h6 : FloatKind.f32.format.infRung / FloatKind.f32.format.binade = 255 := by decide
      rw [h6] at g3
      omega
    · rw [v]
      have a1 : val .f64 r = rval FloatKind.f64.format (ru FloatKind.f64.format r) := by unfold val; rw [h3, hs]; rfl
      have a2 : val .f32 x = rval FloatKind.f32.format (ru FloatKind.f32.format x) := by unfold val; rw [hs]; rfl
      rw [← a1, ← a2, h4]

set_option maxRecDepth 100000 in
set_option maxHeartbeats 1000000 in
theorem l07Parts_any (b m : Nat) (p : Int) (w : World) (hm : m < 16777216) (hp0 : -149 ≤ p) (hp1 : p ≤ 104) (H : Is b m p) :
    Calls Try.prog 95 #[.float .f64 b] w fun en w' => ∃ (i j : Int), en = .returned (.tuple #[.int .i64 i, .int .i64 j]) ∧ -149 ≤ j ∧ j ≤ 300 ∧ ∃ n, w' = w.drewN n := by
  go_enter Try.func95, Try.ntmps95
  go_wp2
  go_loopw [0, 4] (fun a e wr => ∃ (c : Nat) (q : Int) (n : Nat), a = .float .f64 c ∧ Is c m q ∧ q ≤ p ∧ (q = p ∨ 0 ≤ q) ∧ e = .int .i64 (p - q) ∧ wr = w.drewN n) (fun _ e _ => 300 - (intOf e).toNat)
  case atStart => exact ⟨b, p, 0, rfl, H, by omega, .inl rfl, by simp, rfl⟩
  case round =>
    obtain ⟨c, q, n, rfl, hc, hq1, hq2, rfl, rfl⟩ := hrel
    obtain ⟨t, ht⟩ : ∃ t, decide (vOf 16777216 0 ≤ vOf m q) = t := ⟨_, rfl⟩
    have hge := hc.ge_ c24
    rw [ht] at hge
    have HC := Lib.hid hc
    have HT := Lib.hid ht
    clear hc ht
    cases t
    · have hlt : vOf m q < vOf 16777216 0 := Rat.not_le.1 (of_decide_eq_false HT.out)
      have HV := Lib.hid hlt
      clear hlt
      go_wp2
      go_loopw [0, 4] (fun a e wr => ∃ (c : Nat) (q : Int) (n : Nat), a = .float .f64 c ∧ Is c m q ∧ vOf m q < vOf 16777216 0 ∧ -149 ≤ p - q ∧ p - q ≤ 300 ∧ e = .int .i64 (p - q) ∧ wr = w.drewN n) (fun _ e _ => (intOf e + 149).toNat)
      case atStart => exact ⟨c, q, n, rfl, HC.out, HV.out, by omega, by omega, rfl, rfl⟩
      case round =>
        clear HC HT HV hge hq1 hq2
        obtain ⟨c, q, n, rfl, hc, hv, hq1, hq2, rfl, rfl⟩ := hrel
        obtain ⟨t, ht⟩ : ∃ t, decide (vOf m q < vOf 8388608 0) = t := ⟨_, rfl⟩
        have hls := hc.lt_ c23
        rw [ht] at hls
        obtain ⟨j, hj⟩ := small_toInt hc hv
        have HJ := Lib.hid hj
        have HC := Lib.hid hc
        have HV := Lib.hid hv
        have HT := Lib.hid ht
        clear hc ht hv hj
        cases t
        · go_wp2_with (refine wpl_toInt 22 Try.underlying39 Try.underlying3 rfl rfl rfl rfl HJ.out ?_)
          go_ret2
          first | exact ⟨_, _, rfl, by omega, by omega, _, rfl⟩ 
        · by_cases he : -149 < p - q
          · go_wp2_with (refine wpl_farith 18 rfl rfl rfl rfl rfl rfl ?_; intro r n1 hr)
            have HD := HC.out.dbl (by omega) (by omega) (by omega) hr.out.1
            refine ⟨⟨_, q + 1, _, rfl, HD, lt_dbl (of_decide_eq_true HT.out), by omega, by omega, ?_, rfl⟩, ?_⟩
            · rw [show p - q - 1 = p - (q + 1) by omega]
            · show (p - q - 1 + 149).toNat < (p - q + 149).toNat
              omega
          · have hd : decide (-149 < p - q) = false := decide_eq_false he
            go_wp2_with (refine wpl_toInt 22 Try.underlying39 Try.underlying3 rfl rfl rfl rfl HJ.out ?_)
            go_ret2
            first | exact ⟨_, _, rfl, by omega, by omega, _, rfl⟩ 
    · have hge' : vOf 16777216 0 ≤ vOf m q := of_decide_eq_true HT.out
      have hqp := ge_pos hm hge'
      clear hge'
      go_wp2_with (refine wpl_farith 8 rfl rfl rfl rfl rfl rfl ?_; intro r n1 hr)
      have HD := HC.out.half (by omega) (by omega) (by omega) hr.out.1
      refine ⟨⟨_, q - 1, _, rfl, HD, by omega, .inr (by omega), ?_, rfl⟩, ?_⟩
      · rw [show p - q + 1 = p - (q - 1) by omega]
      · show 300 - (p - q + 1).toNat < 300 - (p - q).toNat
        omega

set_option maxRecDepth 100000 in
theorem l07Made_any (m e : Int) (w : World) (he : e ≤ 1000000) (he' : -1000000 ≤ e) :
    Calls Try.prog 94 #[.int .i64 m, .int .i64 e] w fun en w' => ∃ x, en = .returned (.float .f32 x) ∧ ∃ n, w' = w.drewN n := by
  go_enter Try.func94, Try.ntmps94
  go_wp2
  go_loopw [5, 6] (fun a i wr => ∃ (c : Nat) (k n : Nat), a = .float .f64 c ∧ i = .int .i64 (k : Int) ∧ (k : Int) ≤ 1000000 ∧ wr = w.drewN n) (fun _ i _ => 1000000 - (intOf i).toNat)
  case atStart => exact ⟨_, 0, 0, rfl, rfl, by omega, rfl⟩
  case round =>
    obtain ⟨c, k, n, rfl, rfl, hk, rfl⟩ := hrel
    by_cases h1 : (k : Int) < e
    · go_wp2_with (refine wpl_farith 16 rfl rfl rfl rfl rfl rfl ?_; intro r n1 hr)
      refine ⟨⟨_, k + 1, _, rfl, ?_, by omega, rfl⟩, ?_⟩
      · exact congrArg (Value.int .i64) (by omega)
      · show 1000000 - ((k : Int) + 1).toNat < 1000000 - (k : Int).toNat
        omega
    · go_wp2
      go_loopw [5, 7] (fun a i wr => ∃ (c : Nat) (k : Int) (n : Nat), a = .float .f64 c ∧ i = .int .i64 k ∧ k ≤ 0 ∧ -1000000 ≤ k ∧ wr = w.drewN n) (fun _ i _ => (intOf i + 1000000).toNat)
      case atStart => exact ⟨_, 0, n, rfl, rfl, by omega, by omega, rfl⟩
      case round =>
        clear hk h1
        obtain ⟨c, k, n, rfl, rfl, hk0, hk1, rfl⟩ := hrel
        by_cases h1 : e < k
        · go_wp2_with (refine wpl_farith 23 rfl rfl rfl rfl rfl rfl ?_; intro r n1 hr)
          refine ⟨⟨_, k - 1, _, rfl, ?_, by omega, by omega, rfl⟩, ?_⟩
          · rfl
          · show (k - 1 + 1000000).toNat < (k + 1000000).toNat
            omega
        · go_wp2_with (refine wpl_narrow 25 Try.underlying39 Try.underlying24 rfl rfl rfl rfl ?_; intro r1 n1 hr1)
          go_ret
          first | exact ⟨_, rfl, _, rfl⟩ | exact ⟨⟨_, rfl⟩, _, rfl⟩

theorem inf_up {r : Nat} (h : cw .f32 r = arithR .quo .f32 (cw .f32 1065353216) (cw .f32 0)) : r = 2139095040 :=
  cw_out (h.trans (by decide))
theorem inf_down {r : Nat} (h : cw .f32 r = arithR .quo .f32 (cw .f32 3212836864) (cw .f32 0)) : r = 4286578688 :=
  cw_out (h.trans (by decide))

theorem ru_neg' (k : FloatKind) (b : Nat) : ru k.format (Op.negFloat k b) = ru k.format b := by
  have hw : k.format.signWeight = 2 ^ (k.format.exponentBits + k.format.fractionBits) := rfl
  unfold ru Op.negFloat
  rw [hw, Nat.xor_mod_two_pow, Nat.mod_self, Nat.xor_zero]
theorem sg_neg' (k : FloatKind) (b : Nat) : sg k.format (Op.negFloat k b) = !sg k.format b := by
  have hw : k.format.signWeight = 2 ^ (k.format.exponentBits + k.format.fractionBits) := rfl
  have ht : ∀ n, sg k.format n = n.testBit (k.format.exponentBits + k.format.fractionBits) := fun n => by
    unfold sg
    rw [hw, Nat.testBit_eq_decide_div_mod_eq, Bool.eq_iff_iff]
    simp
  rw [ht, ht]
  unfold Op.negFloat
  rw [Nat.testBit_xor, Nat.testBit_two_pow_self, Bool.xor_true]

def NuEnd (w : World) (en : Ending) (w' : World) : Prop := ∃ x, en = .returned (.float .f32 x) ∧ ∃ n, w' = w.drewN n
set_option maxRecDepth 100000 in
set_option maxHeartbeats 1000000 in
theorem nextUp_nan (x : Nat) (w : World) (h1 : FloatKind.f32.format.order x x = none) :
    Calls Try.prog 69 #[.float .f32 x] w (NuEnd w) := by
  go_enter Try.func69, Try.ntmps69
  go_wp2_with (first | (refine wpl_farith 14 rfl rfl rfl rfl rfl rfl ?_; intro r n hr; obtain rfl := inf_up hr.out.1))
  all_goals
    go_ret
    first | exact ⟨_, rfl, _, rfl⟩ | exact ⟨_, rfl, 0, rfl⟩
set_option maxRecDepth 100000 in
set_option maxHeartbeats 1000000 in
theorem nextUp_inf (x : Nat) (w : World) (h1 : FloatKind.f32.format.order x x = some .eq) (h2 : (FloatKind.f32.format.order x 2139095040 == some .eq) = true) :
    Calls Try.prog 69 #[.float .f32 x] w (NuEnd w) := by
  go_enter Try.func69, Try.ntmps69
  go_wp2_with (first | (refine wpl_farith 14 rfl rfl rfl rfl rfl rfl ?_; intro r n hr; obtain rfl := inf_up hr.out.1))
  all_goals
    go_ret
    first | exact ⟨_, rfl, _, rfl⟩ | exact ⟨_, rfl, 0, rfl⟩
set_option maxRecDepth 100000 in
set_option maxHeartbeats 1000000 in
theorem nextUp_zero (x : Nat) (w : World) (h1 : FloatKind.f32.format.order x x = some .eq) (h2 : (FloatKind.f32.format.order x 2139095040 == some .eq) = false) (h3 : (FloatKind.f32.format.order x 0 == some .eq) = true) :
    Calls Try.prog 69 #[.float .f32 x] w (NuEnd w) := by
  go_enter Try.func69, Try.ntmps69
  go_wp2_with (first | (refine wpl_farith 14 rfl rfl rfl rfl rfl rfl ?_; intro r n hr; obtain rfl := inf_up hr.out.1) | (go_at_call 94; (with_reducible refine (l07Made_any _ _ _ (by omega) (by omega)).mono ?_); rintro e w1 ⟨y, rfl, n3, rfl⟩))
  all_goals
    go_ret
    first | exact ⟨_, rfl, _, rfl⟩ | exact ⟨_, rfl, 0, rfl⟩
set_option maxRecDepth 100000 in
set_option maxHeartbeats 1000000 in
theorem nextUp_minf (x : Nat) (w : World) (h1 : FloatKind.f32.format.order x x = some .eq) (h2 : (FloatKind.f32.format.order x 2139095040 == some .eq) = false) (h3 : (FloatKind.f32.format.order x 0 == some .eq) = false) (h4 : (FloatKind.f32.format.order x 4286578688 == some .eq) = true) :
    Calls Try.prog 69 #[.float .f32 x] w (NuEnd w) := by
  go_enter Try.func69, Try.ntmps69
  go_wp2_with (first | (refine wpl_farith 14 rfl rfl rfl rfl rfl rfl ?_; intro r n hr; obtain rfl := inf_up hr.out.1) | (refine wpl_farith 23 rfl rfl rfl rfl rfl rfl ?_; intro r n2 hr; obtain rfl := inf_down hr.out.1) | (go_at_call 94; (with_reducible refine (l07Made_any _ _ _ (by omega) (by omega)).mono ?_); rintro e w1 ⟨y, rfl, n3, rfl⟩))
  all_goals
    go_ret
    first | exact ⟨_, rfl, _, rfl⟩ | exact ⟨_, rfl, 0, rfl⟩
set_option maxRecDepth 100000 in
set_option maxHeartbeats 1000000 in
theorem nextUp_pos (x : Nat) (w : World) (h1 : FloatKind.f32.format.order x x = some .eq) (h2 : (FloatKind.f32.format.order x 2139095040 == some .eq) = false) (h3 : (FloatKind.f32.format.order x 0 == some .eq) = false) (h4 : (FloatKind.f32.format.order x 4286578688 == some .eq) = false) (h5 : (FloatKind.f32.format.order x 0 == some .gt) = true) (HX : Hid (ru FloatKind.f32.format x < FloatKind.f32.format.infRung ∧ sg FloatKind.f32.format x = false)) :
    Calls Try.prog 69 #[.float .f32 x] w (NuEnd w) := by
  go_enter Try.func69, Try.ntmps69
  go_wp2_with (first | (refine wpl_farith 14 rfl rfl rfl rfl rfl rfl ?_; intro r n hr; obtain rfl := inf_up hr.out.1) | (refine wpl_farith 23 rfl rfl rfl rfl rfl rfl ?_; intro r n2 hr; obtain rfl := inf_down hr.out.1) | (refine wpl_widen 31 Try.underlying24 Try.underlying39 rfl rfl rfl rfl ?_; intro r1 n1 hr1) | (go_at_call 95; (obtain ⟨m, p, q1, q2, q3, q4⟩ := single_is HX.out.1 HX.out.2 hr1.out.1 hr1.out.2); (with_reducible refine (l07Parts_any _ m p _ q1 q2 q3 q4).mono ?_); rintro e w4 ⟨i, j, rfl, hj0, hj1, n5, rfl⟩) | (go_at_call 94; (with_reducible refine (l07Made_any _ _ _ (by omega) (by omega)).mono ?_); rintro e w1 ⟨y, rfl, n3, rfl⟩))
  all_goals
    go_ret
    first | exact ⟨_, rfl, _, rfl⟩ | exact ⟨_, rfl, 0, rfl⟩
set_option maxRecDepth 100000 in
set_option maxHeartbeats 1000000 in
theorem nextUp_neg (x : Nat) (w : World) (h1 : FloatKind.f32.format.order x x = some .eq) (h2 : (FloatKind.f32.format.order x 2139095040 == some .eq) = false) (h3 : (FloatKind.f32.format.order x 0 == some .eq) = false) (h4 : (FloatKind.f32.format.order x 4286578688 == some .eq) = false) (h5 : (FloatKind.f32.format.order x 0 == some .gt) = false) (HX : Hid (ru FloatKind.f32.format (Op.negFloat .f32 x) < FloatKind.f32.format.infRung ∧ sg FloatKind.f32.format (Op.negFloat .f32 x) = false)) :
    Calls Try.prog 69 #[.float .f32 x] w (NuEnd w) := by
  go_enter Try.func69, Try.ntmps69
  go_wp2_with (first | (refine wpl_farith 14 rfl rfl rfl rfl rfl rfl ?_; intro r n hr; obtain rfl := inf_up hr.out.1) | (refine wpl_farith 23 rfl rfl rfl rfl rfl rfl ?_; intro r n2 hr; obtain rfl := inf_down hr.out.1) | (refine wpl_widen 42 Try.underlying24 Try.underlying39 rfl rfl rfl rfl ?_; intro r1 n1 hr1) | (go_at_call 95; (obtain ⟨m, p, q1, q2, q3, q4⟩ := single_is HX.out.1 HX.out.2 hr1.out.1 hr1.out.2); (with_reducible refine (l07Parts_any _ m p _ q1 q2 q3 q4).mono ?_); rintro e w4 ⟨i, j, rfl, hj0, hj1, n5, rfl⟩) | (go_at_call 94; (with_reducible refine (l07Made_any _ _ _ (by omega) (by omega)).mono ?_); rintro e w1 ⟨y, rfl, n3, rfl⟩))
  all_goals
    go_ret
    first | exact ⟨_, rfl, _, rfl⟩ | exact ⟨_, rfl, 0, rfl⟩

theorem nextUp_any (x : Nat) (w : World) : Calls Try.prog 69 #[.float .f32 x] w (NuEnd w) := by
  rcases cw_cases .f32 x with ⟨_, h⟩ | ⟨_, h⟩
  · exact nextUp_nan x w (order_nan_left .f32 h)
  · have h1 : FloatKind.f32.format.order x x = some .eq := order_self h
    have e2 := ord_eq .f32 h (y := 2139095040) (by decide)
    have e3 := ord_eq .f32 h (y := 0) (by decide)
    have e4 := ord_eq .f32 h (y := 4286578688) (by decide)
    have e5 := ord_gt .f32 h (y := 0) (by decide)
    have k2 : key .f32 2139095040 = 2139095040 := by decide
    have k3 : key .f32 0 = 0 := by decide
    have k4 : key .f32 4286578688 = -2139095040 := by decide
    have ki : FloatKind.f32.format.infRung = 2139095040 := by decide
    rw [k2] at e2; rw [k3] at e3 e5; rw [k4] at e4
    cases h2 : (FloatKind.f32.format.order x 2139095040 == some .eq)
    · cases h3 : (FloatKind.f32.format.order x 0 == some .eq)
      · cases h4 : (FloatKind.f32.format.order x 4286578688 == some .eq)
        · rw [h2] at e2; rw [h3] at e3; rw [h4] at e4
          have n2 := of_decide_eq_false e2.symm
          have n3 := of_decide_eq_false e3.symm
          have n4 := of_decide_eq_false e4.symm
          have hf : ru FloatKind.f32.format x < FloatKind.f32.format.infRung := by
            unfold key at n2 n4
            rcases Nat.lt_or_eq_of_le h with g | g
            · exact g
            · rw [g, ki] at n2 n4
              cases hs : sg FloatKind.f32.format x <;> rw [hs] at n2 n4 <;> simp at n2 n4
          cases h5 : (FloatKind.f32.format.order x 0 == some .gt)
          · rw [h5] at e5
            have n5 := of_decide_eq_false e5.symm
            refine nextUp_neg x w h1 h2 h3 h4 h5 (Lib.hid ⟨by rw [ru_neg']; exact hf, ?_⟩)
            rw [sg_neg']
            unfold key at n3 n5
            cases hs : sg FloatKind.f32.format x
            · rw [hs] at n3 n5; simp at n3 n5; omega
            · rfl
          · rw [h5] at e5
            have n5 := of_decide_eq_true e5.symm
            refine nextUp_pos x w h1 h2 h3 h4 h5 (Lib.hid ⟨hf, ?_⟩)
            unfold key at n5
            cases hs : sg FloatKind.f32.format x
            · rfl
            · rw [hs] at n5; simp at n5; omega
        · exact nextUp_minf x w h1 h2 h3 h4
      · exact nextUp_zero x w h1 h2 h3
    · exact nextUp_inf x w h1 h2

set_option maxRecDepth 100000 in
theorem nextDown_any (x : Nat) (w : World) : Calls Try.prog 71 #[.float .f32 x] w (NuEnd w) := by
  go_enter Try.func71, Try.ntmps71
  go_wp2_with (go_at_call 69; (with_reducible refine (nextUp_any _ _).mono ?_); rintro e w1 ⟨y, rfl, n, rfl⟩)
  go_ret
  first | exact ⟨_, rfl, _, rfl⟩ | exact ⟨⟨_, rfl⟩, _, rfl⟩
end Go.Proofs.Ytldcciipicnooaa
