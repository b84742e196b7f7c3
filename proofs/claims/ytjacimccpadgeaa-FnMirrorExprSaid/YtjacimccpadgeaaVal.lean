/- What the operations on complex numbers give, seen without the choice of NaN: sum, difference, product, negative, conjugate, quotient, finiteness. Condition: for the quotient the numbers are finite and the divisor is not 0. -/
import Derived.Test.YtjacimccpadgeaaEx
namespace Go.Proofs.Ytjacimccpadgeaa
open Go.RowKit
attribute [local go_sem] run_store_float run_store_complex
attribute [local go_sem] run_neg_float run_neg_complex
set_option maxRecDepth 100000
set_option maxHeartbeats 4000000
set_option linter.unusedVariables false
set_option linter.unusedSimpArgs false

/-- Two parts, 'none' for whichever NaN. -/
abbrev C2 := Option Nat × Option Nat
def cz (z : Nat × Nat) : C2 := (cw .f64 z.1, cw .f64 z.2)
def addF (z y : Nat × Nat) : C2 := (arithR .add .f64 (cw .f64 z.1) (cw .f64 y.1), arithR .add .f64 (cw .f64 z.2) (cw .f64 y.2))
def subF (z y : Nat × Nat) : C2 := (arithR .sub .f64 (cw .f64 z.1) (cw .f64 y.1), arithR .sub .f64 (cw .f64 z.2) (cw .f64 y.2))
def mulF (z y : Nat × Nat) : C2 :=
  (arithR .sub .f64 (arithR .mul .f64 (cw .f64 z.1) (cw .f64 y.1)) (arithR .mul .f64 (cw .f64 z.2) (cw .f64 y.2)),
   arithR .add .f64 (arithR .mul .f64 (cw .f64 z.1) (cw .f64 y.2)) (arithR .mul .f64 (cw .f64 z.2) (cw .f64 y.1)))
abbrev nz (z : Nat × Nat) : Nat × Nat := (Op.negFloat .f64 z.1, Op.negFloat .f64 z.2)
abbrev kz (z : Nat × Nat) : Nat × Nat := (z.1, Op.negFloat .f64 z.2)
def quoF (z y : Nat × Nat) : C2 :=
  let a := cw .f64 z.1; let b := cw .f64 z.2; let c := cw .f64 y.1; let d := cw .f64 y.2
  if absGe y.1 y.2 then
    let ratio := arithR .quo .f64 d c
    let denom := arithR .add .f64 c (arithR .mul .f64 ratio d)
    (arithR .quo .f64 (arithR .add .f64 a (arithR .mul .f64 b ratio)) denom, arithR .quo .f64 (arithR .sub .f64 b (arithR .mul .f64 a ratio)) denom)
  else
    let ratio := arithR .quo .f64 c d
    let denom := arithR .add .f64 d (arithR .mul .f64 ratio c)
    (arithR .quo .f64 (arithR .add .f64 (arithR .mul .f64 a ratio) b) denom, arithR .quo .f64 (arithR .sub .f64 (arithR .mul .f64 b ratio) a) denom)
/-- Two words that are a result. -/
def Res (r : C2) (z : Nat × Nat) : Prop := cw .f64 z.1 = r.1 ∧ cw .f64 z.2 = r.2 ∧ ZOk z
/-- What a function of complex numbers ends with. -/
def ZEnd (r : C2) (w : World) (e : Ending) (w' : World) : Prop := ∃ z n, e = .returned (zv z) ∧ Res r z ∧ w' = w.drewN n

theorem sum_any (z y : Nat × Nat) (w : World) : Calls Try.prog 44 #[zv z, zv y] w (ZEnd (addF z y) w) := by
  go_enter Try.func44, Try.ntmps44
  go_wp2_with (first | (refine wpl_farith 9 rfl rfl rfl rfl rfl rfl ?_; intro r1 n1 hr1) | (refine wpl_farith 14 rfl rfl rfl rfl rfl rfl ?_; intro r2 n2 hr2))
  go_ret
  exact ⟨(_, _), _, rfl, ⟨hr1.out.1, hr2.out.1, hr1.out.2, hr2.out.2⟩, rfl⟩
theorem difference_any (z y : Nat × Nat) (w : World) : Calls Try.prog 45 #[zv z, zv y] w (ZEnd (subF z y) w) := by
  go_enter Try.func45, Try.ntmps45
  go_wp2_with (first | (refine wpl_farith 9 rfl rfl rfl rfl rfl rfl ?_; intro r1 n1 hr1) | (refine wpl_farith 14 rfl rfl rfl rfl rfl rfl ?_; intro r2 n2 hr2))
  go_ret
  exact ⟨(_, _), _, rfl, ⟨hr1.out.1, hr2.out.1, hr1.out.2, hr2.out.2⟩, rfl⟩
theorem product_any (z y : Nat × Nat) (w : World) : Calls Try.prog 46 #[zv z, zv y] w (ZEnd (mulF z y) w) := by
  go_enter Try.func46, Try.ntmps46
  go_wp2_with (first | (refine wpl_farith 19 rfl rfl rfl rfl rfl rfl ?_; intro r1 n1 hr1) | (refine wpl_farith 22 rfl rfl rfl rfl rfl rfl ?_; intro r2 n2 hr2) | (refine wpl_farith 23 rfl rfl rfl rfl rfl rfl ?_; intro r3 n3 hr3) | (refine wpl_farith 26 rfl rfl rfl rfl rfl rfl ?_; intro r4 n4 hr4) | (refine wpl_farith 29 rfl rfl rfl rfl rfl rfl ?_; intro r5 n5 hr5) | (refine wpl_farith 30 rfl rfl rfl rfl rfl rfl ?_; intro r6 n6 hr6))
  go_ret
  refine ⟨(_, _), _, rfl, ⟨?_, ?_, hr3.out.2, hr6.out.2⟩, rfl⟩
  · show cw .f64 r3 = _
    rw [hr3.out.1, hr1.out.1, hr2.out.1]; rfl
  · show cw .f64 r6 = _
    rw [hr6.out.1, hr4.out.1, hr5.out.1]; rfl
theorem times_any (z y : Nat × Nat) (w : World) : Calls Try.prog 27 #[zv z, zv y] w (ZEnd (mulF z y) w) := by
  go_enter Try.func27, Try.ntmps27
  go_wp2_with (first | (refine wpl_farith 13 rfl rfl rfl rfl rfl rfl ?_; intro r1 n1 hr1) | (refine wpl_farith 18 rfl rfl rfl rfl rfl rfl ?_; intro r2 n2 hr2) | (refine wpl_farith 31 rfl rfl rfl rfl rfl rfl ?_; intro r3 n3 hr3) | (refine wpl_farith 23 rfl rfl rfl rfl rfl rfl ?_; intro r4 n4 hr4) | (refine wpl_farith 28 rfl rfl rfl rfl rfl rfl ?_; intro r5 n5 hr5) | (refine wpl_farith 34 rfl rfl rfl rfl rfl rfl ?_; intro r6 n6 hr6))
  go_ret
  refine ⟨(_, _), _, rfl, ⟨?_, ?_, hr3.out.2, hr6.out.2⟩, rfl⟩
  · show cw .f64 r3 = _
    rw [hr3.out.1, hr1.out.1, hr2.out.1]; rfl
  · show cw .f64 r6 = _
    rw [hr6.out.1, hr4.out.1, hr5.out.1]; rfl
theorem ZOk.neg {z : Nat × Nat} (h : ZOk z) : ZOk (nz z) := ⟨neg_lt .f64 h.1, neg_lt .f64 h.2⟩
theorem ZOk.conj {z : Nat × Nat} (h : ZOk z) : ZOk (kz z) := ⟨h.1, neg_lt .f64 h.2⟩
theorem negative_any (z : Nat × Nat) (w : World) : Calls Try.prog 42 #[zv z] w fun e w' => e = .returned (zv (nz z)) ∧ w' = w := by
  go_enter Try.func42, Try.ntmps42
  go_wp2
  go_ret
  exact ⟨rfl, rfl⟩
theorem conjI_any (z : Nat × Nat) (w : World) : Calls Try.prog 43 #[zv z] w fun e w' => e = .returned (zv (kz z)) ∧ w' = w := by
  go_enter Try.func43, Try.ntmps43
  go_wp2
  go_ret
  exact ⟨rfl, rfl⟩
theorem conjS_any (z : Nat × Nat) (w : World) : Calls Try.prog 26 #[zv z] w fun e w' => e = .returned (zv (kz z)) ∧ w' = w := by
  go_enter Try.func26, Try.ntmps26
  go_wp2
  go_ret
  exact ⟨rfl, rfl⟩
theorem truth_any (b : Bool) (w : World) : Calls Try.prog 28 #[.bool b] w fun e w' => e = .returned (zv (if b then (4607182418800017408, 0) else (0, 0))) ∧ w' = w := by
  go_enter Try.func28, Try.ntmps28
  cases b
  · go_wp2
    go_ret
    exact ⟨rfl, rfl⟩
  · go_wp2
    go_ret
    exact ⟨rfl, rfl⟩
/-- Are both parts finite? -/
def finZ (z : Nat × Nat) : Bool := finB .f64 z.1 && finB .f64 z.2
theorem finiteI_any (z : Nat × Nat) (h : ZOk z) (w : World) : Calls Try.prog 23 #[zv z] w fun e w' => e = .returned (.bool (finZ z)) ∧ w' = w := by
  obtain ⟨bx, hbx⟩ : ∃ b, finB .f64 z.1 = b := ⟨_, rfl⟩
  obtain ⟨bY, hby⟩ : ∃ b, finB .f64 z.2 = b := ⟨_, rfl⟩
  have c1 := fun W => finite_any z.1 W h.1
  have c2 := fun W => finite_any z.2 W h.2
  rw [hbx] at c1
  rw [hby] at c2
  have e : finZ z = (bx && bY) := by unfold finZ; rw [hbx, hby]
  rw [e]
  go_enter Try.func23, Try.ntmps23
  cases bx
  · go_wp2_with (go_at_call 47; (with_reducible refine (c1 _).mono ?_); rintro e w1 ⟨rfl, hw⟩; have hw := hw.symm; subst hw)
    go_ret
    exact ⟨rfl, rfl⟩
  · go_wp2_with (first | (go_at_call 47; (with_reducible refine (c1 _).mono ?_); rintro e w1 ⟨rfl, hw⟩; have hw := hw.symm; subst hw) | (go_at_call 47; (with_reducible refine (c2 _).mono ?_); rintro e w1 ⟨rfl, hw⟩; have hw := hw.symm; subst hw))
    go_ret
    exact ⟨rfl, rfl⟩
theorem finiteS_any (z : Nat × Nat) (w : World) : Calls Try.prog 29 #[zv z] w fun e w' => e = .returned (.bool (finZ z)) ∧ ∃ n, w' = w.drewN n := by
  obtain ⟨bx, hbx⟩ : ∃ b, finB .f64 z.1 = b := ⟨_, rfl⟩
  obtain ⟨bY, hby⟩ : ∃ b, finB .f64 z.2 = b := ⟨_, rfl⟩
  have c1 := fun W => l01Fine_any z.1 W
  have c2 := fun W => l01Fine_any z.2 W
  rw [hbx] at c1
  rw [hby] at c2
  have e : finZ z = (bx && bY) := by unfold finZ; rw [hbx, hby]
  rw [e]
  go_enter Try.func29, Try.ntmps29
  cases bx
  · go_wp2_with (go_at_call 50; (with_reducible refine (c1 _).mono ?_); rintro e w1 ⟨rfl, n1, hw⟩; subst hw)
    go_ret
    exact ⟨rfl, _, rfl⟩
  · go_wp2_with (first | (go_at_call 50; (with_reducible refine (c1 _).mono ?_); rintro e w1 ⟨rfl, n1, hw⟩; subst hw) | (go_at_call 50; (with_reducible refine (c2 _).mono ?_); rintro e w1 ⟨rfl, n2, hw⟩; subst hw))
    go_ret
    exact ⟨rfl, _, rfl⟩

/-! ### The quotient -/
theorem run_arithC (P : Program) (op : BinOp) (hop : isArith op = true) (x y : Nat) (w : World) :
    ∃ r n, (Op.Complex.arith op .f64 x y).run P w = .ok r (w.drewN n) ∧ cw .f64 r = arithR op .f64 (cw .f64 x) (cw .f64 y) ∧ r < 2 ^ 64 := by
  obtain ⟨r, n, h, h1, h2⟩ := run_floatArith P w op hop .f64 x y
  exact ⟨r, n, by simp [Op.Complex.arith, h], h1, h2⟩
theorem fin_datum {x : Nat} (h : FinW x) : ∃ s m p, FloatKind.f64.format.read x = .number s m p := by
  obtain ⟨m, p, e, _⟩ := read_fin FloatKind.f64.format h.2
  exact ⟨_, m, p, e⟩
theorem fin_isInf {x : Nat} (h : FinW x) : Op.Complex.isInf x = false := by
  obtain ⟨s, m, p, e⟩ := fin_datum h
  show (FloatKind.f64.format.read x).isInfinity = false
  rw [e]; rfl
theorem run_eqlC (P : Program) (x y : Nat) (w : World) : (Op.Complex.cmp .eql .f64 x y).run P w = .ok (FloatKind.f64.format.order x y == some .eq) w := by simp [Op.Complex.cmp, Op.floatCmp, asBool]
theorem run_quotient (P : Program) (a b c d : Nat) (w : World) (ha : FinW a) (hb : FinW b) (hc : FinW c) (hd : FinW d) (hz : (FloatKind.f64.format.order c 0 == some .eq && FloatKind.f64.format.order d 0 == some .eq) = false) :
    ∃ e f n, (Op.Complex.quotient a b c d).run P w = .ok (e, f) (w.drewN n) ∧ Res (quoF (a, b) (c, d)) (e, f) := by
  cases hge : absGe c d
  · obtain ⟨ratio, n1, q1, p1, _⟩ := run_arithC P .quo rfl c d w
    obtain ⟨x2, n2, q2, p2, _⟩ := run_arithC P .mul rfl ratio c (w.drewN n1)
    obtain ⟨denom, n3, q3, p3, _⟩ := run_arithC P .add rfl d x2 ((w.drewN n1).drewN n2)
    obtain ⟨x4, n4, q4, p4, _⟩ := run_arithC P .mul rfl a ratio (((w.drewN n1).drewN n2).drewN n3)
    obtain ⟨x5, n5, q5, p5, _⟩ := run_arithC P .add rfl x4 b ((((w.drewN n1).drewN n2).drewN n3).drewN n4)
    obtain ⟨e, n6, q6, p6, l6⟩ := run_arithC P .quo rfl x5 denom (((((w.drewN n1).drewN n2).drewN n3).drewN n4).drewN n5)
    obtain ⟨x7, n7, q7, p7, _⟩ := run_arithC P .mul rfl b ratio ((((((w.drewN n1).drewN n2).drewN n3).drewN n4).drewN n5).drewN n6)
    obtain ⟨x8, n8, q8, p8, _⟩ := run_arithC P .sub rfl x7 a (((((((w.drewN n1).drewN n2).drewN n3).drewN n4).drewN n5).drewN n6).drewN n7)
    obtain ⟨f, n9, q9, p9, l9⟩ := run_arithC P .quo rfl x8 denom ((((((((w.drewN n1).drewN n2).drewN n3).drewN n4).drewN n5).drewN n6).drewN n7).drewN n8)
    refine ⟨e, f, n1 + n2 + n3 + n4 + n5 + n6 + n7 + n8 + n9, ?_, ?_, ?_, l6, l9⟩
    · have hW : w.drewN (n1 + n2 + n3 + n4 + n5 + n6 + n7 + n8 + n9) = (((((((((w.drewN n1).drewN n2).drewN n3).drewN n4).drewN n5).drewN n6).drewN n7).drewN n8).drewN n9) := by simp [World.drewN, Nat.add_assoc]
      rw [hW]
      unfold Op.Complex.quotient
      have hge' : (Op.Complex.cmp .geq .f64 (Op.Complex.abs c) (Op.Complex.abs d)).run P w = .ok false w := by rw [run_ccmp_geq, hge]
      simp only [Op.Complex.quo, Op.Complex.mul, Op.Complex.add, Op.Complex.sub] 
      simp only [Sem.run_bind, hge', Result.andThen_ok, Bool.false_eq_true, if_false, q1, q2, q3, q4, q5, q6, q7, q8, q9, Sem.run_pure, run_eqlC, hz, Bool.false_and, fin_isInf ha, fin_isInf hb, fin_isInf hc, fin_isInf hd, Bool.or_self]
      split <;> rfl
    · simp only [quoF, hge, Bool.false_eq_true, if_false]
      rw [p6, p5, p4, p3, p2, p1]
    · simp only [quoF, hge, Bool.false_eq_true, if_false]
      rw [p9, p8, p7, p3, p2, p1]
  · obtain ⟨ratio, n1, q1, p1, _⟩ := run_arithC P .quo rfl d c w
    obtain ⟨x2, n2, q2, p2, _⟩ := run_arithC P .mul rfl ratio d (w.drewN n1)
    obtain ⟨denom, n3, q3, p3, _⟩ := run_arithC P .add rfl c x2 ((w.drewN n1).drewN n2)
    obtain ⟨x4, n4, q4, p4, _⟩ := run_arithC P .mul rfl b ratio (((w.drewN n1).drewN n2).drewN n3)
    obtain ⟨x5, n5, q5, p5, _⟩ := run_arithC P .add rfl a x4 ((((w.drewN n1).drewN n2).drewN n3).drewN n4)
    obtain ⟨e, n6, q6, p6, l6⟩ := run_arithC P .quo rfl x5 denom (((((w.drewN n1).drewN n2).drewN n3).drewN n4).drewN n5)
    obtain ⟨x7, n7, q7, p7, _⟩ := run_arithC P .mul rfl a ratio ((((((w.drewN n1).drewN n2).drewN n3).drewN n4).drewN n5).drewN n6)
    obtain ⟨x8, n8, q8, p8, _⟩ := run_arithC P .sub rfl b x7 (((((((w.drewN n1).drewN n2).drewN n3).drewN n4).drewN n5).drewN n6).drewN n7)
    obtain ⟨f, n9, q9, p9, l9⟩ := run_arithC P .quo rfl x8 denom ((((((((w.drewN n1).drewN n2).drewN n3).drewN n4).drewN n5).drewN n6).drewN n7).drewN n8)
    refine ⟨e, f, n1 + n2 + n3 + n4 + n5 + n6 + n7 + n8 + n9, ?_, ?_, ?_, l6, l9⟩
    · have hW : w.drewN (n1 + n2 + n3 + n4 + n5 + n6 + n7 + n8 + n9) = (((((((((w.drewN n1).drewN n2).drewN n3).drewN n4).drewN n5).drewN n6).drewN n7).drewN n8).drewN n9) := by simp [World.drewN, Nat.add_assoc]
      rw [hW]
      unfold Op.Complex.quotient
      have hge' : (Op.Complex.cmp .geq .f64 (Op.Complex.abs c) (Op.Complex.abs d)).run P w = .ok true w := by rw [run_ccmp_geq, hge]
      simp only [Op.Complex.quo, Op.Complex.mul, Op.Complex.add, Op.Complex.sub] 
      simp only [Sem.run_bind, hge', Result.andThen_ok, Bool.false_eq_true, if_true, if_false, q1, q2, q3, q4, q5, q6, q7, q8, q9, Sem.run_pure, run_eqlC, hz, Bool.false_and, fin_isInf ha, fin_isInf hb, fin_isInf hc, fin_isInf hd, Bool.or_self]
      split <;> rfl
    · simp only [quoF, hge, if_true]
      rw [p6, p5, p4, p3, p2, p1]
    · simp only [quoF, hge, if_true]
      rw [p9, p8, p7, p3, p2, p1]
theorem run_cquo_of (P : Program) (t : TypeId) {a b c d e f : Nat} {w w' : World} (hq : (Op.Complex.quotient a b c d).run P w = .ok (e, f) w') :
    (binOp .quo t (.complex .f64 a b) (.complex .f64 c d)).run P w = .ok (.complex .f64 e f) w' := by
  simp [binOp, Op.complexOp, Op.Complex.conv, hq]
/-- The quotient, in whatever world. -/
theorem quo_law (P : Program) (t : TypeId) (z y : Nat × Nat) (hz1 : FinW z.1) (hz2 : FinW z.2) (hy1 : FinW y.1) (hy2 : FinW y.2) (hz : (FloatKind.f64.format.order y.1 0 == some .eq && FloatKind.f64.format.order y.2 0 == some .eq) = false) :
    ∃ (fe ff fn : World → Nat), (∀ W, (binOp .quo t (.complex .f64 z.1 z.2) (.complex .f64 y.1 y.2)).run P W = .ok (.complex .f64 (fe W) (ff W)) (W.drewN (fn W))) ∧ ∀ W, Res (quoF z y) (fe W, ff W) := by
  have h := fun W => run_quotient P z.1 z.2 y.1 y.2 W hz1 hz2 hy1 hy2 hz
  refine ⟨fun W => (h W).choose, fun W => (h W).choose_spec.choose, fun W => (h W).choose_spec.choose_spec.choose, fun W => ?_, fun W => (h W).choose_spec.choose_spec.choose_spec.2⟩
  exact run_cquo_of P t (h W).choose_spec.choose_spec.choose_spec.1
/-- Sum and difference of complex numbers. -/
theorem csum_law (P : Program) (op : BinOp) (hop : op = .add ∨ op = .sub) (t : TypeId) (z y : Nat × Nat) (w : World) :
    ∃ x n, (binOp op t (zv z) (zv y)).run P w = .ok (zv x) (w.drewN n) ∧ Res (if op = .add then addF z y else subF z y) x := by
  rcases hop with rfl | rfl
  · obtain ⟨r1, n1, q1, p1, l1⟩ := run_arithC P .add rfl z.1 y.1 w
    obtain ⟨r2, n2, q2, p2, l2⟩ := run_arithC P .add rfl z.2 y.2 (w.drewN n1)
    exact ⟨(r1, r2), n1 + n2, by simp [binOp, Op.complexOp, q1, q2], p1, p2, l1, l2⟩
  · obtain ⟨r1, n1, q1, p1, l1⟩ := run_arithC P .sub rfl z.1 y.1 w
    obtain ⟨r2, n2, q2, p2, l2⟩ := run_arithC P .sub rfl z.2 y.2 (w.drewN n1)
    exact ⟨(r1, r2), n1 + n2, by simp [binOp, Op.complexOp, q1, q2], p1, p2, l1, l2⟩
/-- THE WALK's RULE: an operation on two values that runs as told. -/
theorem wpl_bin {P : Program} {ops : Array Oper} {rest : List Oper} {o : Oper} {a : Act} {w : World} {Q : Exit → Act → World → Prop} (dd : Tmp) {op : BinOp} {t t2 : TypeId} {x y : Operand} {vx vy v : Value} {n : Nat}
    (hgd : Region.wanted o (yielded ops a.tmps) = true) (hdst : o.dst = some dd) (ho : o.op = .binOp op t x y t2)
    (hx : a.eval x = vx) (hy : a.eval y = vy) (hg : eqGuard op t x y vx vy = pure ()) (hr : (binOp op t vx vy).run P w = .ok v (w.drewN n))
    (h : wpList P ops Q rest (a.put (some dd) v) (w.drewN n)) :
    wpList P ops Q (o :: rest) a w := by
  refine wpList_want hgd fun K hK => ?_
  have hr' : (execOp a.eval o).run P w = .ok (.value v) (w.drewN n) := by
    simp [execOp, ho, hg, hx, hy, hr]
  unfold Oper.wp
  rw [hr']
  show K (a.put o.dst v) (w.drewN n)
  rw [hdst]
  exact hK _ _ h
end Go.Proofs.Ytjacimccpadgeaa
