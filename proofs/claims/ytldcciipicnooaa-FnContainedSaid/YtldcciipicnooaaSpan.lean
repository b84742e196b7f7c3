/- The reference's own way to the next single, told exactly at singles of no great amount. -/
import Derived.Test.YtldcciipicnooaaNear
namespace Go.Proofs.Ytldcciipicnooaa
open Go.RowKit
attribute [local go_sem] run_neg_float run_neg_complex

/-- Where the search for the digits ends, there is a whole number. -/
theorem parts_int {m : Nat} {p q : Int} (hm0 : 0 < m) (hm : m < 16777216) (hp : -149 ≤ p) (hv : vOf m q < vOf 16777216 0) (h : vOf 8388608 0 ≤ vOf m q ∨ p - q ≤ -149) :
    ∃ i : Nat, vOf m q = vOf i 0 ∧ 0 < i ∧ i < 16777216 ∧ (8388608 ≤ i ∨ p - q ≤ -149) := by
  rcases Int.lt_or_le q 0 with hq | hq
  · exfalso
    rcases h with h | h
    · have h1 := vOf_lt_pw (m := m) (k := 24) (p := q) (by omega)
      have h2 : pw ((24 : Nat) + q) ≤ pw 23 := pw_le (by omega)
      have h3 : vOf 8388608 0 = pw 23 := by
        have := pw_nat 23
        rw [show (23 : Int) = ((23 : Nat) : Int) by rfl, this, vOf_nat]
      grind
    · omega
  · have e : vOf m q = vOf (m * 2 ^ q.toNat) 0 := by
      have := vOf_shift m q.toNat 0
      rw [show (0 : Int) + (q.toNat : Int) = q by omega] at this
      exact this.symm
    rw [e] at hv h
    rw [vOf_nat, vOf_nat] at hv
    have h1 := Rat.natCast_lt_natCast.1 hv
    refine ⟨m * 2 ^ q.toNat, e, Nat.mul_pos hm0 (Nat.two_pow_pos _), h1, ?_⟩
    rcases h with h | h
    · rw [vOf_nat, vOf_nat] at h
      exact .inl (Rat.natCast_le_natCast.1 h)
    · exact .inr h
theorem vOf_at {m i : Nat} {q p : Int} (h : vOf m q = vOf i 0) : vOf i (p - q) = vOf m p := by
  unfold vOf at *
  rw [pw_zero] at h
  have h2 := pw_add q (p - q)
  rw [show q + (p - q) = p by omega] at h2
  rw [h2]
  grind

def PaEnd (m : Nat) (p : Int) (w : World) (en : Ending) (w' : World) : Prop :=
  ∃ (i : Nat) (j : Int), en = .returned (.tuple #[.int .i64 (i : Int), .int .i64 j]) ∧ 0 < i ∧ i < 16777216 ∧ (8388608 ≤ i ∨ j = -149) ∧ -149 ≤ j ∧ j ≤ 300 ∧ vOf i j = vOf m p ∧ ∃ n, w' = w.drewN n
set_option maxRecDepth 100000 in
set_option maxHeartbeats 1000000 in
theorem l07Parts_ex (b m : Nat) (p : Int) (w : World) (hm0 : 0 < m) (hm : m < 16777216) (hp0 : -149 ≤ p) (hp1 : p ≤ 104) (H : Is b m p) :
    Calls Try.prog 95 #[.float .f64 b] w (PaEnd m p w) := by
  go_enter Try.func95, Try.ntmps95
  go_wp2
  go_loopw [0, 4] (fun a e wr => ∃ (c : Nat) (q : Int) (n : Nat), a = .float .f64 c ∧ Is c m q ∧ q ≤ p ∧ (q = p ∨ 0 ≤ q) ∧ e = .int .i64 (p - q) ∧ wr = w.drewN n) (fun _ e _ => 300 - (intOf e).toNat)
  case atStart => exact ⟨b, p, 0, rfl, H, by omega, .inl rfl, by simp, rfl⟩
  case round =>
    obtain ⟨c, q, n, rfl, hc, hq1, hq2, rfl, rfl⟩ := hrel
    obtain ⟨t, ht⟩ : ∃ t, decide (vOf 16777216 0 ≤ vOf m q) = t := ⟨_, rfl⟩
    have hge := hc.ge_ c24
    rw [ht] at hge
    have HC := Lib.hid hc
    have HT := Lib.hid ht
    clear hc ht
    cases t
    · have hlt : vOf m q < vOf 16777216 0 := Rat.not_le.1 (of_decide_eq_false HT.out)
      have HV := Lib.hid hlt
      clear hlt
      go_wp2
      go_loopw [0, 4] (fun a e wr => ∃ (c : Nat) (q : Int) (n : Nat), a = .float .f64 c ∧ Is c m q ∧ vOf m q < vOf 16777216 0 ∧ -149 ≤ p - q ∧ p - q ≤ 300 ∧ e = .int .i64 (p - q) ∧ wr = w.drewN n) (fun _ e _ => (intOf e + 149).toNat)
      case atStart => exact ⟨c, q, n, rfl, HC.out, HV.out, by omega, by omega, rfl, rfl⟩
      case round =>
        clear HC HT HV hge hq1 hq2
        obtain ⟨c, q, n, rfl, hc, hv, hq1, hq2, rfl, rfl⟩ := hrel
        obtain ⟨t, ht⟩ : ∃ t, decide (vOf m q < vOf 8388608 0) = t := ⟨_, rfl⟩
        have hls := hc.lt_ c23
        rw [ht] at hls
        have HC := Lib.hid hc
        have HV := Lib.hid hv
        have HT := Lib.hid ht
        clear hc ht hv
        cases t
        · obtain ⟨i, hi, hi0, hi1, hi2⟩ := parts_int hm0 hm hp0 HV.out (.inl (Rat.not_lt.1 (of_decide_eq_false HT.out)))
          have HJ := Lib.hid (toInt_is (HC.out.congr hi) (by omega))
          have HI := Lib.hid hi
          clear hi
          go_wp2_with (refine wpl_toInt 22 Try.underlying39 Try.underlying3 rfl rfl rfl rfl HJ.out ?_)
          go_ret2
          exact ⟨i, p - q, rfl, hi0, hi1, by omega, by omega, by omega, vOf_at HI.out, _, rfl⟩
        · by_cases he : -149 < p - q
          · go_wp2_with (refine wpl_farith 18 rfl rfl rfl rfl rfl rfl ?_; intro r n1 hr)
            have HD := HC.out.dbl (by omega) (by omega) (by omega) hr.out.1
            refine ⟨⟨_, q + 1, _, rfl, HD, lt_dbl (of_decide_eq_true HT.out), by omega, by omega, ?_, rfl⟩, ?_⟩
            · rw [show p - q - 1 = p - (q + 1) by omega]
            · show (p - q - 1 + 149).toNat < (p - q + 149).toNat
              omega
          · have hd : decide (-149 < p - q) = false := decide_eq_false he
            obtain ⟨i, hi, hi0, hi1, hi2⟩ := parts_int hm0 hm hp0 HV.out (.inr (by omega))
            have HJ := Lib.hid (toInt_is (HC.out.congr hi) (by omega))
            have HI := Lib.hid hi
            clear hi
            go_wp2_with (refine wpl_toInt 22 Try.underlying39 Try.underlying3 rfl rfl rfl rfl HJ.out ?_)
            go_ret2
            exact ⟨i, p - q, rfl, hi0, hi1, by omega, by omega, by omega, vOf_at HI.out, _, rfl⟩
    · have hge' : vOf 16777216 0 ≤ vOf m q := of_decide_eq_true HT.out
      have hqp := ge_pos hm hge'
      clear hge'
      go_wp2_with (refine wpl_farith 8 rfl rfl rfl rfl rfl rfl ?_; intro r n1 hr)
      have HD := HC.out.half (by omega) (by omega) (by omega) hr.out.1
      refine ⟨⟨_, q - 1, _, rfl, HD, by omega, .inr (by omega), ?_, rfl⟩, ?_⟩
      · rw [show p - q + 1 = p - (q - 1) by omega]
      · show 300 - (p - q + 1).toNat < 300 - (p - q).toNat
        omega

theorem made_narrow {c m r : Nat} {e : Int} (h : Is c m e) (hk : mkOk m e = true) (hr : Narrow (cw .f64 c) (cw .f32 r)) : r = rungOf FloatKind.f32.format m e := by
  rcases mk_cases h hr with ⟨_, h2, _⟩ | ⟨h1, _⟩ | ⟨h1, _⟩
  · exact h2
  · rw [hk] at h1; cases h1
  · rw [hk] at h1; cases h1
def MaEnd (m : Nat) (e : Int) (w : World) (en : Ending) (w' : World) : Prop := en = .returned (.float .f32 (rungOf FloatKind.f32.format m e)) ∧ ∃ n, w' = w.drewN n
set_option maxRecDepth 100000 in
theorem l07Made_up (m : Nat) (e : Nat) (w : World) (hm : m ≤ 16777216) (he : e ≤ 300) (hk : mkOk m (e : Int) = true) :
    Calls Try.prog 94 #[.int .i64 (m : Int), .int .i64 (e : Int)] w (MaEnd m e w) := by
  have HK := Lib.hid hk
  clear hk
  go_enter Try.func94, Try.ntmps94
  go_wp2
  go_loopw [5, 6] (fun a i wr => ∃ (c : Nat) (k n : Nat), a = .float .f64 c ∧ i = .int .i64 (k : Int) ∧ k ≤ e ∧ Is c m (k : Int) ∧ wr = w.drewN n) (fun _ i _ => 1000000 - (intOf i).toNat)
  case atStart => exact ⟨_, 0, 0, rfl, rfl, by omega, Is.ofNat (by omega), rfl⟩
  case round =>
    obtain ⟨c, k, n, rfl, rfl, hk, hc, rfl⟩ := hrel
    have HC := Lib.hid hc
    clear hc
    by_cases h1 : (k : Int) < (e : Int)
    · go_wp2_with (refine wpl_farith 16 rfl rfl rfl rfl rfl rfl ?_; intro r n1 hr)
      refine ⟨⟨_, k + 1, _, rfl, ?_, by omega, ?_, rfl⟩, ?_⟩
      · exact congrArg (Value.int .i64) (by omega)
      · exact HC.out.dbl (by omega) (by omega) (by omega) hr.out.1
      · show 1000000 - ((k : Int) + 1).toNat < 1000000 - (k : Int).toNat
        omega
    · obtain rfl : k = e := by omega
      have h0 : ¬ (k : Int) < 0 := by omega
      go_wp2
      go_loopw [5, 7] (fun a i wr => a = .float .f64 c ∧ i = .int .i64 0 ∧ wr = w.drewN n) (fun _ i _ => 0)
      case atStart => exact ⟨rfl, rfl, rfl⟩
      case round =>
        obtain ⟨rfl, rfl, rfl⟩ := hrel
        go_wp2_with (refine wpl_narrow 25 Try.underlying39 Try.underlying24 rfl rfl rfl rfl ?_; intro r1 n1 hr1)
        go_ret
        obtain rfl := made_narrow HC.out HK.out hr1.out.1
        exact ⟨rfl, _, rfl⟩
set_option maxRecDepth 100000 in
theorem l07Made_down (m : Nat) (e : Int) (w : World) (hm : m ≤ 16777216) (he : -149 ≤ e) (he2 : e ≤ 0) (hk : mkOk m e = true) :
    Calls Try.prog 94 #[.int .i64 (m : Int), .int .i64 e] w (MaEnd m e w) := by
  have HK := Lib.hid hk
  clear hk
  have h0 : ¬ (0 : Int) < e := by omega
  go_enter Try.func94, Try.ntmps94
  go_wp2
  go_loopw [5, 6] (fun a i wr => a = .float .f64 (floatOfInt .f64 (m : Int)) ∧ i = .int .i64 0 ∧ wr = w) (fun _ i _ => 0)
  case atStart => exact ⟨rfl, rfl, rfl⟩
  case round =>
    obtain ⟨rfl, rfl, rfl⟩ := hrel
    have HS := Lib.hid (Is.ofNat (m := m) (by omega))
    go_wp2
    go_loopw [5, 7] (fun a i w' => ∃ (c : Nat) (k : Int) (n : Nat), a = .float .f64 c ∧ i = .int .i64 k ∧ k ≤ 0 ∧ e ≤ k ∧ Is c m k ∧ w' = wr.drewN n) (fun _ i _ => (intOf i + 1000000).toNat)
    case atStart => exact ⟨_, 0, 0, rfl, rfl, by omega, by omega, HS.out, rfl⟩
    case round =>
      clear HS
      obtain ⟨c, k, n, rfl, rfl, hk0, hk1, hc, rfl⟩ := hrel
      have HC := Lib.hid hc
      clear hc
      by_cases h1 : e < k
      · go_wp2_with (refine wpl_farith 23 rfl rfl rfl rfl rfl rfl ?_; intro r n1 hr)
        refine ⟨⟨_, k - 1, _, rfl, ?_, by omega, by omega, ?_, rfl⟩, ?_⟩
        · rfl
        · exact HC.out.half (by omega) (by omega) (by omega) hr.out.1
        · show (k - 1 + 1000000).toNat < (k + 1000000).toNat
          omega
      · obtain rfl : k = e := by omega
        go_wp2_with (refine wpl_narrow 25 Try.underlying39 Try.underlying24 rfl rfl rfl rfl ?_; intro r1 n1 hr1)
        go_ret
        obtain rfl := made_narrow HC.out HK.out hr1.out.1
        exact ⟨rfl, _, rfl⟩
theorem l07Made_ex (m : Nat) (e : Int) (w : World) (hm : m ≤ 16777216) (he : -149 ≤ e) (he2 : e ≤ 300) (hk : mkOk m e = true) :
    Calls Try.prog 94 #[.int .i64 (m : Int), .int .i64 e] w (MaEnd m e w) := by
  rcases Int.lt_or_le 0 e with h | h
  · obtain ⟨n, rfl⟩ := Int.eq_ofNat_of_zero_le (Int.le_of_lt h)
    exact l07Made_up m n w hm (by omega) hk
  · exact l07Made_down m e w hm he h hk

theorem l07Made_i (mi : Int) (m : Nat) (e : Int) (w : World) (hmi : mi = (m : Int)) (hm : m ≤ 16777216) (he : -149 ≤ e) (he2 : e ≤ 300) (hk : mkOk m e = true) :
    Calls Try.prog 94 #[.int .i64 mi, .int .i64 e] w (MaEnd m e w) := by
  subst hmi; exact l07Made_ex m e w hm he he2 hk
/-- The rung of a whole number of one binade at most, at a place that fits. -/
theorem rung_at {i r : Nat} {j : Int} (hi : i ≤ 16777216) (hj : -149 ≤ j) (h2 : 8388608 ≤ i ∨ j = -149) (hr : (r : Int) = (j + 149) * 8388608 + i) (hlt : r < FloatKind.f32.format.infRung) :
    rval FloatKind.f32.format r = vOf i j ∧ rungOf FloatKind.f32.format i j = r ∧ mkOk i j = true := by
  have h := rval_kept FloatKind.f32.format (j + 149).toNat i (by rw [b32]; omega) (by rw [b32]; omega)
  rw [b32, l32, show (-149 : Int) + ((j + 149).toNat : Int) = j by omega] at h
  have e : (j + 149).toNat * 8388608 + i = r := by omega
  rw [e] at h
  have h3 := rung_of_rval FloatKind.f32.format h.symm
  refine ⟨h, h3, ?_⟩
  unfold mkOk
  rw [h3]
  exact decide_eq_true ⟨hlt, h⟩

/-- A single of no great amount (2^30), by its place. -/
def Mild (x : Nat) : Prop := x < 2 ^ 32 ∧ ru FloatKind.f32.format x ≤ 1317011456
theorem Mild.fin {x : Nat} (h : Mild x) : ru FloatKind.f32.format x < FloatKind.f32.format.infRung := by have := h.2; rw [i32]; omega
def NsEnd (x : Nat) (w : World) (en : Ending) (w' : World) : Prop := ∃ y, en = .returned (.float .f32 y) ∧ y < 2 ^ 32 ∧ ru FloatKind.f32.format y ≤ 1317011457 ∧ key .f32 y = key .f32 x + 1 ∧ ∃ n, w' = w.drewN n

theorem digits32 {i r : Nat} {j : Int} (h0 : i < 16777216) (hj : -149 ≤ j) (h2 : 8388608 ≤ i ∨ j = -149) (hv : vOf i j = rval FloatKind.f32.format r) : (r : Int) = (j + 149) * 8388608 + i := by
  have h := rval_kept FloatKind.f32.format (j + 149).toNat i (by rw [b32]; omega) (by rw [b32]; omega)
  rw [b32, l32, show (-149 : Int) + ((j + 149).toNat : Int) = j by omega, hv] at h
  have := rval_inj FloatKind.f32.format h
  omega

theorem one_div_zero {r : Nat} (h : cw .f32 r = arithR .quo .f32 (cw .f32 1065353216) (cw .f32 0)) : r = 2139095040 := inf_up h
set_option maxRecDepth 100000 in
theorem nextUpS_zero (x : Nat) (w : World) (_hx : x < 2 ^ 32) (h : ru FloatKind.f32.format x = 0) : Calls Try.prog 69 #[.float .f32 x] w (NsEnd x w) := by
  have hle : ru FloatKind.f32.format x ≤ FloatKind.f32.format.infRung := by omega
  have k1 : key .f32 x = 0 := key_zero .f32 h
  have k2 : key .f32 2139095040 = 2139095040 := by decide
  have k3 : key .f32 0 = 0 := by decide
  have e1 : (FloatKind.f32.format.order x x != some .eq) = false := by rw [bne, order_self hle]; rfl
  have ho : (FloatKind.f32.format.order x 2139095040 == some .eq) = false := by rw [ord_eq .f32 hle inf_le, k1, k2]; decide
  have hz : (FloatKind.f32.format.order x 0 == some .eq) = true := by rw [ord_eq .f32 hle (by decide), k1, k3]; decide
  have K := Lib.hid k1
  clear h hle k1 k2 k3
  have hk : mkOk 1 (-149) = true := by decide +kernel
  have hr : rungOf FloatKind.f32.format 1 (-149) = 1 := by decide +kernel
  have HK := Lib.hid hk
  have HR := Lib.hid hr
  clear hk hr
  go_enter Try.func69, Try.ntmps69
  go_wp2_with (first | (refine wpl_farith 14 rfl rfl rfl rfl rfl rfl ?_; intro r n1 hr; obtain rfl := one_div_zero hr.out.1) | (go_at_call 94; (with_reducible refine (l07Made_i _ 1 (-149) _ (by decide) (by omega) (by omega) (by omega) HK.out).mono ?_); rintro e w2 ⟨he2, n2, rfl⟩; rw [HR.out] at he2; subst he2))
  go_ret
  exact ⟨1, rfl, by decide, by decide, by rw [K.out]; decide, _, rfl⟩

set_option maxRecDepth 100000 in
theorem nextUpS_pos (x : Nat) (w : World) (h : 0 < x) (h2 : x ≤ 1317011456) : Calls Try.prog 69 #[.float .f32 x] w (NsEnd x w) := by
  obtain ⟨a1, a2⟩ := ru_lit (r := x) (by omega)
  have hfin : ru FloatKind.f32.format x < FloatKind.f32.format.infRung := by rw [a1, i32]; omega
  have hle := Nat.le_of_lt hfin
  have k1 : key .f32 x = x := by unfold key; rw [a1, a2]; rfl
  have k2 : key .f32 2139095040 = 2139095040 := by decide
  have k4 : key .f32 4286578688 = -2139095040 := by decide
  have k3 : key .f32 0 = 0 := by decide
  have e1 : (FloatKind.f32.format.order x x != some .eq) = false := by rw [bne, order_self hle]; rfl
  have ho : (FloatKind.f32.format.order x 2139095040 == some .eq) = false := by rw [ord_eq .f32 hle inf_le, k1, k2]; exact decide_eq_false (by omega)
  have hm : (FloatKind.f32.format.order x 4286578688 == some .eq) = false := by rw [ord_eq .f32 hle (by decide), k1, k4]; exact decide_eq_false (by omega)
  have hz : (FloatKind.f32.format.order x 0 == some .eq) = false := by rw [ord_eq .f32 hle (by decide), k1, k3]; exact decide_eq_false (by omega)
  have hg : (FloatKind.f32.format.order x 0 == some .gt) = true := by rw [ord_gt .f32 hle (by decide), k1, k3]; exact decide_eq_true (by omega)
  have HA := Lib.hid (And.intro a1 a2)
  have HF := Lib.hid hfin
  have K := Lib.hid k1
  clear hle hfin k1 k2 k3 k4 a1 a2
  go_enter Try.func69, Try.ntmps69
  go_wp2_with (first | (refine wpl_farith 14 rfl rfl rfl rfl rfl rfl ?_; intro r n1 hr; obtain rfl := one_div_zero hr.out.1) | (refine wpl_farith 23 rfl rfl rfl rfl rfl rfl ?_; intro r3 n3 hr3; obtain rfl := inf_down hr3.out.1) | (refine wpl_widen 31 Try.underlying24 Try.underlying39 rfl rfl rfl rfl ?_; intro r4 n4 hr4))
  obtain ⟨m, p, s1, s2, s3, s4⟩ := single_is HF.out HA.out.2 hr4.out.1 hr4.out.2
  have hv : vOf m p = rval FloatKind.f32.format x := by
    have h1 := (widen_val HF.out hr4.out.1).2.1
    have h3 : val .f64 r4 = vOf m p := s4.val
    have h4 : val .f32 x = rval FloatKind.f32.format x := by unfold val; rw [HA.out.1, HA.out.2]; rfl
    rw [← h3, h1, h4]
  have hm0 : 0 < m := by
    rcases Nat.eq_zero_or_pos m with h0 | h0
    · subst h0
      rw [vOf_zero] at hv
      have := rval_pos FloatKind.f32.format h
      rw [← hv] at this
      exact absurd this (by decide)
    · exact h0
  have HS := Lib.hid s4
  have HV := Lib.hid hv
  clear hv s4
  go_wp2_with (go_at_call 95; (with_reducible refine (l07Parts_ex _ _ _ _ hm0 s1 s2 s3 HS.out).mono ?_); rintro e w5 ⟨i, j, rfl, i0, i1, i2, j1, j2, ij, n5, rfl⟩; have hd := digits32 i1 j1 i2 (ij.trans HV.out); have HD := Lib.hid hd; clear ij hd)
  have hd := HD.out
  obtain ⟨q1, q2, q3⟩ := rung_at (i := i + 1) (r := x + 1) (j := j) (by omega) j1 (by omega) (by omega) (by rw [i32]; omega)
  have HQ := Lib.hid q2
  have HK := Lib.hid q3
  have hi63 : (i : Int) + 1 ≤ 16777216 := by omega
  have ei : ((i + 1 : Nat) : Int) = (i : Int) + 1 := by omega
  have EI := Lib.hid ei
  clear q1 q2 q3 hd i2 ei
  go_wp2_with (go_at_call 94; (with_reducible refine (l07Made_i _ (i + 1) j _ EI.out.symm (by omega) j1 j2 HK.out).mono ?_); rintro e w6 ⟨he6, n6, rfl⟩; rw [HQ.out] at he6; subst he6)
  go_ret
  obtain ⟨b1, b2⟩ := ru_lit (r := x + 1) (by omega)
  exact ⟨x + 1, rfl, by omega, by rw [b1]; omega, by rw [K.out]; unfold key; rw [b1, b2]; simp, _, rfl⟩

theorem single_neg {x r b : Nat} (hx : ru FloatKind.f32.format x = r) (h0 : 0 < r) (h1 : sg FloatKind.f32.format x = true ∧ r ≤ 1317011456) (hr : cw .f64 b = widen (cw .f32 (Op.negFloat .f32 x))) (hl : b < 2 ^ 64) :
    ∃ (m : Nat) (p : Int), 0 < m ∧ m < 16777216 ∧ -149 ≤ p ∧ p ≤ 104 ∧ Is b m p ∧ vOf m p = rval FloatKind.f32.format r := by
  have hf : ru FloatKind.f32.format (Op.negFloat .f32 x) < FloatKind.f32.format.infRung := by rw [ru_neg', hx, i32]; omega
  have hs : sg FloatKind.f32.format (Op.negFloat .f32 x) = false := by rw [sg_neg', h1.1]; rfl
  obtain ⟨m, p, s1, s2, s3, s4⟩ := single_is hf hs hr hl
  have hv : vOf m p = rval FloatKind.f32.format r := by
    have h1 := (widen_val hf hr).2.1
    have h3 : val .f64 b = vOf m p := s4.val
    have h4 : val .f32 (Op.negFloat .f32 x) = rval FloatKind.f32.format r := by unfold val; rw [ru_neg', hs, hx]; rfl
    rw [← h3, h1, h4]
  refine ⟨m, p, ?_, s1, s2, s3, s4, hv⟩
  rcases Nat.eq_zero_or_pos m with h2 | h2
  · subst h2
    rw [vOf_zero] at hv
    have := rval_pos FloatKind.f32.format h0
    rw [← hv] at this
    exact absurd this (by decide)
  · exact h2

theorem neg_end {x r n : Nat} {w : World} (h : 0 < r) (_hs : sg FloatKind.f32.format x = true) (h2 : r ≤ 1317011456) (hk : key .f32 x = -(r : Int)) :
    ∃ y, Ending.returned (.float .f32 (Op.negFloat .f32 (r - 1))) = .returned (.float .f32 y) ∧ y < 2 ^ 32 ∧ ru FloatKind.f32.format y ≤ 1317011457 ∧ key .f32 y = key .f32 x + 1 ∧ ∃ m, w.drewN n = w.drewN m := by
  obtain ⟨b1, b2⟩ := ru_lit (r := r - 1) (by omega)
  refine ⟨_, rfl, neg_lt .f32 (by show r - 1 < 2 ^ 32; omega), by rw [ru_neg', b1]; omega, ?_, n, rfl⟩
  rw [hk, key_neg']
  unfold key
  rw [b1, b2]
  simp
  omega

set_option maxRecDepth 100000 in
theorem nextUpS_neg (x r : Nat) (w : World) (hx : ru FloatKind.f32.format x = r) (hs : sg FloatKind.f32.format x = true) (h : 0 < r) (h2 : r ≤ 1317011456) : Calls Try.prog 69 #[.float .f32 x] w (NsEnd x w) := by
  have hle : ru FloatKind.f32.format x ≤ FloatKind.f32.format.infRung := by rw [hx, i32]; omega
  have k1 : key .f32 x = -(r : Int) := by unfold key; rw [hx, hs]; rfl
  have k2 : key .f32 2139095040 = 2139095040 := by decide
  have k4 : key .f32 4286578688 = -2139095040 := by decide
  have k3 : key .f32 0 = 0 := by decide
  have e1 : (FloatKind.f32.format.order x x != some .eq) = false := by rw [bne, order_self hle]; rfl
  have ho : (FloatKind.f32.format.order x 2139095040 == some .eq) = false := by rw [ord_eq .f32 hle inf_le, k1, k2]; exact decide_eq_false (by omega)
  have hm : (FloatKind.f32.format.order x 4286578688 == some .eq) = false := by rw [ord_eq .f32 hle (by decide), k1, k4]; exact decide_eq_false (by omega)
  have hz : (FloatKind.f32.format.order x 0 == some .eq) = false := by rw [ord_eq .f32 hle (by decide), k1, k3]; exact decide_eq_false (by omega)
  have hg : (FloatKind.f32.format.order x 0 == some .gt) = false := by rw [ord_gt .f32 hle (by decide), k1, k3]; exact decide_eq_false (by omega)
  have HA := Lib.hid (And.intro hx (And.intro h (And.intro hs h2)))
  have K := Lib.hid k1
  clear hle k1 k2 k3 k4 hx hs
  go_enter Try.func69, Try.ntmps69
  go_wp2_with (first | (refine wpl_farith 14 rfl rfl rfl rfl rfl rfl ?_; intro r1 n1 hr; obtain rfl := one_div_zero hr.out.1) | (refine wpl_farith 23 rfl rfl rfl rfl rfl rfl ?_; intro r3 n3 hr3; obtain rfl := inf_down hr3.out.1) | (refine wpl_widen 42 Try.underlying24 Try.underlying39 rfl rfl rfl rfl ?_; intro r4 n4 hr4; have HS := Lib.hid (single_neg HA.out.1 HA.out.2.1 HA.out.2.2 hr4.out.1 hr4.out.2)) | (go_at_call 95; (with_reducible refine (l07Parts_ex _ _ _ _ HS.out.choose_spec.choose_spec.1 HS.out.choose_spec.choose_spec.2.1 HS.out.choose_spec.choose_spec.2.2.1 HS.out.choose_spec.choose_spec.2.2.2.1 HS.out.choose_spec.choose_spec.2.2.2.2.1).mono ?_); rintro e w5 ⟨i, j, rfl, i0, i1, i2, j1, j2, ij, n5, rfl⟩; have hd := digits32 i1 j1 i2 (ij.trans HS.out.choose_spec.choose_spec.2.2.2.2.2); have HD := Lib.hid hd; have HI2 := Lib.hid i2; clear ij hd i2))
  · have hd := HD.out
    have i2 := HI2.out
    have hi : i = 8388608 := by omega
    obtain ⟨q1, q2, q3⟩ := rung_at (i := 16777215) (r := r - 1) (j := j - 1) (by omega) (by omega) (by omega) (by omega) (by rw [i32]; omega)
    have HQ := Lib.hid q2
    have HK := Lib.hid q3
    clear q1 q2 q3 hd i2
    go_wp2_with (go_at_call 94; (with_reducible refine (l07Made_i _ (16777215) (j - 1) _ (by omega) (by omega) (by omega) (by omega) HK.out).mono ?_); rintro e w6 ⟨he6, n6, rfl⟩; rw [HQ.out] at he6; subst he6)
    go_ret
    exact neg_end HA.out.2.1 HA.out.2.2.1 HA.out.2.2.2 K.out
  · have hd := HD.out
    have i2 := HI2.out
    have hi : i = 8388608 := by omega
    obtain ⟨q1, q2, q3⟩ := rung_at (i := 8388607) (r := r - 1) (j := j) (by omega) (by omega) (by omega) (by omega) (by rw [i32]; omega)
    have HQ := Lib.hid q2
    have HK := Lib.hid q3
    clear q1 q2 q3 hd i2
    go_wp2_with (go_at_call 94; (with_reducible refine (l07Made_i _ (8388607) (j) _ (by omega) (by omega) (by omega) (by omega) HK.out).mono ?_); rintro e w6 ⟨he6, n6, rfl⟩; rw [HQ.out] at he6; subst he6)
    go_ret
    exact neg_end HA.out.2.1 HA.out.2.2.1 HA.out.2.2.2 K.out
  · have hd := HD.out
    have hi : i = 1 := by
      have h9 : ((i : Int) == 1) = true := by assumption
      have h8 := eq_of_beq h9
      omega
    have i2 := HI2.out
    have hr1 : r = 1 := by omega
    go_ret
    exact ⟨0, rfl, by decide, by decide, by rw [K.out, hr1]; decide, _, rfl⟩
  · have hd := HD.out
    have i2 := HI2.out
    have hi0 := i0
    obtain ⟨q1, q2, q3⟩ := rung_at (i := i - 1) (r := r - 1) (j := j) (by omega) (by omega) (by omega) (by omega) (by rw [i32]; omega)
    have HQ := Lib.hid q2
    have HK := Lib.hid q3
    clear q1 q2 q3 hd i2
    go_wp2_with (go_at_call 94; (with_reducible refine (l07Made_i _ (i - 1) (j) _ (by omega) (by omega) (by omega) (by omega) HK.out).mono ?_); rintro e w6 ⟨he6, n6, rfl⟩; rw [HQ.out] at he6; subst he6)
    go_ret
    exact neg_end HA.out.2.1 HA.out.2.2.1 HA.out.2.2.2 K.out

/-- The reference's next single up, at a mild single. -/
theorem nextUpS_mild (x : Nat) (w : World) (h : Mild x) : Calls Try.prog 69 #[.float .f32 x] w (NsEnd x w) := by
  rcases Nat.eq_zero_or_pos (ru FloatKind.f32.format x) with h0 | h0
  · exact nextUpS_zero x w h.1 h0
  · rcases word_cases h.1 with ⟨s, e⟩ | ⟨s, e⟩
    · exact nextUpS_pos x w (by omega) (by have := h.2; omega)
    · exact nextUpS_neg x _ w rfl s h0 h.2
end Go.Proofs.Ytldcciipicnooaa
