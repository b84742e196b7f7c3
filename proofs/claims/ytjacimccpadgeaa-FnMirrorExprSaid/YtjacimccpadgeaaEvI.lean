/- What the program's evaluation of one node is. Conditions: the node is a drawn one, the operands are finite. -/
import Derived.Test.YtjacimccpadgeaaVal
import Derived.Deep.RegionHeld3
import Derived.BigQuiet
namespace Go.Proofs.Ytjacimccpadgeaa
open Go.RowKit
attribute [local go_sem] run_store_float run_store_complex
attribute [local go_sem] run_neg_float run_neg_complex
set_option maxRecDepth 100000
set_option maxHeartbeats 4000000
set_option linter.unusedVariables false
set_option linter.unusedSimpArgs false

/-- Finite words. -/
def ZFin (z : Nat × Nat) : Prop := FinW z.1 ∧ FinW z.2
theorem ZFin.ok {z : Nat × Nat} (h : ZFin z) : ZOk z := ⟨h.1.1, h.2.1⟩
/-- A slice value that shows operands. -/
def OView (w : World) (v : Value) (zs : List (Nat × Nat)) : Prop := ∃ A cap, v = .slice A zs.length cap ∧ ∀ k (h : k < zs.length), ∃ b off, A = some ⟨b, off, none⟩ ∧ b < w.heap.size ∧ w.cell? ⟨b, off + k, none⟩ = some (zv zs[k])
/-- A slice value that shows slots. -/
def SView (w : World) (v : Value) (zs : List (Nat × Nat)) : Prop := ∃ b cap, v = .slice (some ⟨b, 0, none⟩) zs.length cap ∧ b < w.heap.size ∧ ∀ k (h : k < zs.length), w.cell? ⟨b, k, none⟩ = some (zv zs[k])
theorem ZRow.view {w : World} {v : Value} {zs : List (Nat × Nat)} {g : Nat} (h : ZRow w v zs g) : SView w v zs := by
  have hlt := h.lt
  obtain ⟨cap, rfl, hown⟩ := h
  refine ⟨g, cap, rfl, hlt, fun k hk => ?_⟩
  have hc := hown.cells rfl k (zv zs[k]) (by simp [hk])
  rwa [show (⟨g, 0, none⟩ : Addr).add k = ⟨g, k, none⟩ by unfold Addr.add; split <;> simp_all] at hc
theorem SView.below {w w' : World} {v : Value} {zs : List (Nat × Nat)} (h : SView w v zs) (hb : Below w.heap.size w w') : SView w' v zs := by
  obtain ⟨g, cap, rfl, hg, hc⟩ := h
  exact ⟨g, cap, rfl, Nat.lt_of_lt_of_le hg hb.size, fun k hk => (hb.cell (p := ⟨g, k, none⟩) hg).trans (hc k hk)⟩

/-- Are two complex numbers equal? -/
def eqZ (z y : Nat × Nat) : Bool := FloatKind.f64.format.order z.1 y.1 == some .eq && FloatKind.f64.format.order z.2 y.2 == some .eq
/-- What a node makes of its operands; 'none': there is no value. -/
def evF (x : Nd) (ops slots : List (Nat × Nat)) : Option C2 :=
  if x.kind = 1 then some (cz (x.re, x.im))
  else if x.kind = 2 then (slots[x.slot.toNat]?).map cz
  else
    let z := ops.getD 0 (0, 0)
    let y := ops.getD 1 (0, 0)
    if x.kind = 3 then some (cz z)
    else if x.kind = 4 then some (cz (nz z))
    else if x.kind = 5 then some (cz (kz z))
    else if x.kind = 6 then some (cz (z.1, 0))
    else if x.kind = 7 then some (cz (z.2, 0))
    else if x.kind = 8 then some (addF z y)
    else if x.kind = 9 then some (subF z y)
    else if x.kind = 10 then some (mulF z y)
    else if x.kind = 11 then (if eqZ y (0, 0) then none else some (quoF z y))
    else some (if eqZ z y then cz (4607182418800017408, 0) else cz (0, 0))
/-- A value and whether there is one. -/
def OutR (r : Option C2) (z : Nat × Nat) (ok : Bool) : Prop := match r with
  | none => ok = false
  | some r => ok = true ∧ Res r z
def EvEnd (r : Option C2) (w : World) (e : Ending) (w' : World) : Prop := ∃ z ok, e = .returned (.tuple #[zv z, .bool ok]) ∧ OutR r z ok ∧ Below w.heap.size w w'
theorem Res.self {z : Nat × Nat} (h : ZOk z) : Res (cz z) z := ⟨rfl, rfl, h⟩
theorem ev_some {w w' : World} {r : C2} {z : Nat × Nat} (h : Res r z) (hb : Below w.heap.size w w') : EvEnd (some r) w (.returned (.tuple #[zv z, .bool true])) w' := ⟨z, true, rfl, ⟨rfl, h⟩, hb⟩
theorem ev_none {w w' : World} (z : Nat × Nat) (hb : Below w.heap.size w w') : EvEnd none w (.returned (.tuple #[zv z, .bool false])) w' := ⟨z, false, rfl, rfl, hb⟩
theorem good_ZOk {re im : Nat} (h : GoodV re im) : ZOk (re, im) := ⟨h.both.1.fin.1.1, h.both.2.fin.1.1⟩

theorem evI_num (re im : Nat) (h : GoodV re im) (lv sv : Value) (w : World) : Calls Try.prog 22 #[ndV ⟨1, 0, re, im⟩, lv, sv] w (EvEnd (some (cz (re, im))) w) := by
  go_enter Try.func22, Try.ntmps22
  go_wp2
  exact bodyPost_ret (v := .tuple #[.complex .f64 re im, .bool true]) (by simp (maxDischargeDepth := 6) [results, Try.results22, go_sem]) rfl (ev_some (z := (re, im)) (Res.self (good_ZOk h)) (by repeat (first | exact Below.refl _ _ | assumption | refine bl_drewN ?_ _ | refine bl_drew ?_ | refine bl_alloc ?_ _ | refine bl_set ?_ (by first | (simp; done) | (simp; omega) | omega | (simp [World.setCell]; done) | (simp [World.setCell]; omega)) _ | refine bl_call ?_ (by assumption))))
theorem evI_slot (s : Int) (hs : 0 ≤ s ∧ s ≤ 3) (lv : Value) (b cap : Nat) (zs : List (Nat × Nat)) (w : World) (hok : ∀ z ∈ zs, ZOk z) (hb : b < w.heap.size) (hc : ∀ k (h : k < zs.length), w.cell? ⟨b, k, none⟩ = some (zv zs[k])) (hl : zs.length ≤ 5) :
    Calls Try.prog 22 #[ndV ⟨2, s, 0, 0⟩, lv, .slice (some ⟨b, 0, none⟩) zs.length cap] w (EvEnd ((zs[s.toNat]?).map cz) w) := by
  obtain ⟨n, rfl⟩ : ∃ n : Nat, s = n := ⟨s.toNat, by omega⟩
  have e : (zs[(n : Int).toNat]?).map cz = (zs[n]?).map cz := rfl
  rw [e]
  go_enter Try.func22, Try.ntmps22
  by_cases hn : n < zs.length
  · have d1 : decide ((zs.length : Int) ≤ (n : Int)) = false := decide_eq_false (by omega)
    have q := hc n hn
    rw [List.getElem?_eq_getElem hn]
    have hzo := hok _ (List.getElem_mem hn)
    go_wp2
    exact bodyPost_ret (v := .tuple #[zv zs[n], .bool true]) (by simp (maxDischargeDepth := 6) [results, Try.results22, go_sem]) rfl (ev_some (Res.self hzo) (by repeat (first | exact Below.refl _ _ | assumption | refine bl_drewN ?_ _ | refine bl_drew ?_ | refine bl_alloc ?_ _ | refine bl_set ?_ (by first | (simp; done) | (simp; omega) | omega | (simp [World.setCell]; done) | (simp [World.setCell]; omega)) _ | refine bl_call ?_ (by assumption))))
  · have d1 : decide ((zs.length : Int) ≤ (n : Int)) = true := decide_eq_true (by omega)
    rw [List.getElem?_eq_none (by omega)]
    go_wp2
    exact bodyPost_ret (v := .tuple #[zv (0, 0), .bool false]) (by simp (maxDischargeDepth := 6) [results, Try.results22, go_sem]) rfl (ev_none (0, 0) (by repeat (first | exact Below.refl _ _ | assumption | refine bl_drewN ?_ _ | refine bl_drew ?_ | refine bl_alloc ?_ _ | refine bl_set ?_ (by first | (simp; done) | (simp; omega) | omega | (simp [World.setCell]; done) | (simp [World.setCell]; omega)) _ | refine bl_call ?_ (by assumption))))
theorem evI_plus (z : Nat × Nat) (hz : ZOk z) (b off cap : Nat) (sv : Value) (w : World) (hb : b < w.heap.size) (q : w.cell? ⟨b, off, none⟩ = some (zv z)) :
    Calls Try.prog 22 #[ndV ⟨3, 0, 0, 0⟩, .slice (some ⟨b, off, none⟩) 1 cap, sv] w (EvEnd (some (cz z)) w) := by
  go_enter Try.func22, Try.ntmps22
  go_wp2
  exact bodyPost_ret (v := .tuple #[zv z, .bool true]) (by simp (maxDischargeDepth := 6) [results, Try.results22, go_sem]) rfl (ev_some (Res.self hz) (by repeat (first | exact Below.refl _ _ | assumption | refine bl_drewN ?_ _ | refine bl_drew ?_ | refine bl_alloc ?_ _ | refine bl_set ?_ (by first | (simp; done) | (simp; omega) | omega | (simp [World.setCell]; done) | (simp [World.setCell]; omega)) _ | refine bl_call ?_ (by assumption))))
theorem evI_minus (z : Nat × Nat) (hz : ZOk z) (b off cap : Nat) (sv : Value) (w : World) (hb : b < w.heap.size) (q : w.cell? ⟨b, off, none⟩ = some (zv z)) :
    Calls Try.prog 22 #[ndV ⟨4, 0, 0, 0⟩, .slice (some ⟨b, off, none⟩) 1 cap, sv] w (EvEnd (some (cz (nz z))) w) := by
  go_enter Try.func22, Try.ntmps22
  go_wp2_with (go_at_call 42; (with_reducible refine (negative_any z _).mono ?_); rintro e w1 ⟨rfl, hw⟩; subst hw)
  exact bodyPost_ret (v := .tuple #[zv (nz z), .bool true]) (by simp (maxDischargeDepth := 6) [results, Try.results22, go_sem]) rfl (ev_some (Res.self hz.neg) (by repeat (first | exact Below.refl _ _ | assumption | refine bl_drewN ?_ _ | refine bl_drew ?_ | refine bl_alloc ?_ _ | refine bl_set ?_ (by first | (simp; done) | (simp; omega) | omega | (simp [World.setCell]; done) | (simp [World.setCell]; omega)) _ | refine bl_call ?_ (by assumption))))
theorem evI_conj (z : Nat × Nat) (hz : ZOk z) (b off cap : Nat) (sv : Value) (w : World) (hb : b < w.heap.size) (q : w.cell? ⟨b, off, none⟩ = some (zv z)) :
    Calls Try.prog 22 #[ndV ⟨5, 0, 0, 0⟩, .slice (some ⟨b, off, none⟩) 1 cap, sv] w (EvEnd (some (cz (kz z))) w) := by
  go_enter Try.func22, Try.ntmps22
  go_wp2_with (go_at_call 43; (with_reducible refine (conjI_any z _).mono ?_); rintro e w1 ⟨rfl, hw⟩; subst hw)
  exact bodyPost_ret (v := .tuple #[zv (kz z), .bool true]) (by simp (maxDischargeDepth := 6) [results, Try.results22, go_sem]) rfl (ev_some (Res.self hz.conj) (by repeat (first | exact Below.refl _ _ | assumption | refine bl_drewN ?_ _ | refine bl_drew ?_ | refine bl_alloc ?_ _ | refine bl_set ?_ (by first | (simp; done) | (simp; omega) | omega | (simp [World.setCell]; done) | (simp [World.setCell]; omega)) _ | refine bl_call ?_ (by assumption))))
theorem evI_real (z : Nat × Nat) (hz : ZOk z) (b off cap : Nat) (sv : Value) (w : World) (hb : b < w.heap.size) (q : w.cell? ⟨b, off, none⟩ = some (zv z)) :
    Calls Try.prog 22 #[ndV ⟨6, 0, 0, 0⟩, .slice (some ⟨b, off, none⟩) 1 cap, sv] w (EvEnd (some (cz (z.1, 0))) w) := by
  go_enter Try.func22, Try.ntmps22
  go_wp2
  exact bodyPost_ret (v := .tuple #[zv (z.1, 0), .bool true]) (by simp (maxDischargeDepth := 6) [results, Try.results22, go_sem]) rfl (ev_some (Res.self ⟨hz.1, Nat.two_pow_pos 64⟩) (by repeat (first | exact Below.refl _ _ | assumption | refine bl_drewN ?_ _ | refine bl_drew ?_ | refine bl_alloc ?_ _ | refine bl_set ?_ (by first | (simp; done) | (simp; omega) | omega | (simp [World.setCell]; done) | (simp [World.setCell]; omega)) _ | refine bl_call ?_ (by assumption))))
theorem evI_imag (z : Nat × Nat) (hz : ZOk z) (b off cap : Nat) (sv : Value) (w : World) (hb : b < w.heap.size) (q : w.cell? ⟨b, off, none⟩ = some (zv z)) :
    Calls Try.prog 22 #[ndV ⟨7, 0, 0, 0⟩, .slice (some ⟨b, off, none⟩) 1 cap, sv] w (EvEnd (some (cz (z.2, 0))) w) := by
  go_enter Try.func22, Try.ntmps22
  go_wp2
  exact bodyPost_ret (v := .tuple #[zv (z.2, 0), .bool true]) (by simp (maxDischargeDepth := 6) [results, Try.results22, go_sem]) rfl (ev_some (Res.self ⟨hz.2, Nat.two_pow_pos 64⟩) (by repeat (first | exact Below.refl _ _ | assumption | refine bl_drewN ?_ _ | refine bl_drew ?_ | refine bl_alloc ?_ _ | refine bl_set ?_ (by first | (simp; done) | (simp; omega) | omega | (simp [World.setCell]; done) | (simp [World.setCell]; omega)) _ | refine bl_call ?_ (by assumption))))
theorem evI_sum (z y : Nat × Nat) (b off cap : Nat) (sv : Value) (w : World) (hb : b < w.heap.size) (q : w.cell? ⟨b, off, none⟩ = some (zv z)) (q1 : w.cell? ⟨b, off + 1, none⟩ = some (zv y)) :
    Calls Try.prog 22 #[ndV ⟨8, 0, 0, 0⟩, .slice (some ⟨b, off, none⟩) 2 cap, sv] w (EvEnd (some (addF z y)) w) := by
  go_enter Try.func22, Try.ntmps22
  go_wp2_with fail
  go_region_with (first | (go_at_call 44; (with_reducible refine (sum_any z y _).mono ?_); rintro e w1 ⟨x, n1, rfl, hx, hw⟩; subst hw))
  all_goals
    go_wp2
    exact bodyPost_ret (v := .tuple #[zv x, .bool true]) (by simp (maxDischargeDepth := 6) [results, Try.results22, go_sem]) rfl (ev_some hx (by repeat (first | exact Below.refl _ _ | assumption | refine bl_drewN ?_ _ | refine bl_drew ?_ | refine bl_alloc ?_ _ | refine bl_set ?_ (by first | (simp; done) | (simp; omega) | omega | (simp [World.setCell]; done) | (simp [World.setCell]; omega)) _ | refine bl_call ?_ (by assumption))))
theorem evI_diff (z y : Nat × Nat) (b off cap : Nat) (sv : Value) (w : World) (hb : b < w.heap.size) (q : w.cell? ⟨b, off, none⟩ = some (zv z)) (q1 : w.cell? ⟨b, off + 1, none⟩ = some (zv y)) :
    Calls Try.prog 22 #[ndV ⟨9, 0, 0, 0⟩, .slice (some ⟨b, off, none⟩) 2 cap, sv] w (EvEnd (some (subF z y)) w) := by
  go_enter Try.func22, Try.ntmps22
  go_wp2_with fail
  go_region_with (first | (go_at_call 45; (with_reducible refine (difference_any z y _).mono ?_); rintro e w1 ⟨x, n1, rfl, hx, hw⟩; subst hw))
  all_goals
    go_wp2
    exact bodyPost_ret (v := .tuple #[zv x, .bool true]) (by simp (maxDischargeDepth := 6) [results, Try.results22, go_sem]) rfl (ev_some hx (by repeat (first | exact Below.refl _ _ | assumption | refine bl_drewN ?_ _ | refine bl_drew ?_ | refine bl_alloc ?_ _ | refine bl_set ?_ (by first | (simp; done) | (simp; omega) | omega | (simp [World.setCell]; done) | (simp [World.setCell]; omega)) _ | refine bl_call ?_ (by assumption))))
theorem evI_prod (z y : Nat × Nat) (b off cap : Nat) (sv : Value) (w : World) (hb : b < w.heap.size) (q : w.cell? ⟨b, off, none⟩ = some (zv z)) (q1 : w.cell? ⟨b, off + 1, none⟩ = some (zv y)) :
    Calls Try.prog 22 #[ndV ⟨10, 0, 0, 0⟩, .slice (some ⟨b, off, none⟩) 2 cap, sv] w (EvEnd (some (mulF z y)) w) := by
  go_enter Try.func22, Try.ntmps22
  go_wp2_with fail
  go_region_with (first | (go_at_call 46; (with_reducible refine (product_any z y _).mono ?_); rintro e w1 ⟨x, n1, rfl, hx, hw⟩; subst hw))
  all_goals
    go_wp2
    exact bodyPost_ret (v := .tuple #[zv x, .bool true]) (by simp (maxDischargeDepth := 6) [results, Try.results22, go_sem]) rfl (ev_some hx (by repeat (first | exact Below.refl _ _ | assumption | refine bl_drewN ?_ _ | refine bl_drew ?_ | refine bl_alloc ?_ _ | refine bl_set ?_ (by first | (simp; done) | (simp; omega) | omega | (simp [World.setCell]; done) | (simp [World.setCell]; omega)) _ | refine bl_call ?_ (by assumption))))
theorem evI_quo0 (z y : Nat × Nat) (hq : eqZ y (0, 0) = true) (b off cap : Nat) (sv : Value) (w : World) (hb : b < w.heap.size) (q : w.cell? ⟨b, off, none⟩ = some (zv z)) (q1 : w.cell? ⟨b, off + 1, none⟩ = some (zv y)) :
    Calls Try.prog 22 #[ndV ⟨11, 0, 0, 0⟩, .slice (some ⟨b, off, none⟩) 2 cap, sv] w (EvEnd none w) := by
  have hq' : (FloatKind.f64.format.order y.1 0 == some .eq && FloatKind.f64.format.order y.2 0 == some .eq) = true := hq
  go_enter Try.func22, Try.ntmps22
  go_wp2
  exact bodyPost_ret (v := .tuple #[zv (0, 0), .bool false]) (by simp (maxDischargeDepth := 6) [results, Try.results22, go_sem]) rfl (ev_none (0, 0) (by repeat (first | exact Below.refl _ _ | assumption | refine bl_drewN ?_ _ | refine bl_drew ?_ | refine bl_alloc ?_ _ | refine bl_set ?_ (by first | (simp; done) | (simp; omega) | omega | (simp [World.setCell]; done) | (simp [World.setCell]; omega)) _ | refine bl_call ?_ (by assumption))))
theorem evI_quo (z y : Nat × Nat) (hz : ZFin z) (hy : ZFin y) (hq : eqZ y (0, 0) = false) (b off cap : Nat) (sv : Value) (w : World) (hb : b < w.heap.size) (q : w.cell? ⟨b, off, none⟩ = some (zv z)) (q1 : w.cell? ⟨b, off + 1, none⟩ = some (zv y)) :
    Calls Try.prog 22 #[ndV ⟨11, 0, 0, 0⟩, .slice (some ⟨b, off, none⟩) 2 cap, sv] w (EvEnd (some (quoF z y)) w) := by
  have hq' : (FloatKind.f64.format.order y.1 0 == some .eq && FloatKind.f64.format.order y.2 0 == some .eq) = false := hq
  obtain ⟨fe, ff, fn, hl, hres⟩ := quo_law Try.prog 30 z y hz.1 hz.2 hy.1 hy.2 hq'
  go_enter Try.func22, Try.ntmps22
  go_wp2_with fail
  go_region
  all_goals
    go_wp2
    have HR := hres (w.alloc (.cells #[.int .i64 11, .int .i64 0, .complex .f64 0 0] 36)).drew
    generalize fe (w.alloc (.cells #[.int .i64 11, .int .i64 0, .complex .f64 0 0] 36)).drew = xe at HR ⊢
    generalize ff (w.alloc (.cells #[.int .i64 11, .int .i64 0, .complex .f64 0 0] 36)).drew = xf at HR ⊢
    exact bodyPost_ret (v := .tuple #[.complex .f64 xe xf, .bool true]) (by simp (maxDischargeDepth := 6) [results, Try.results22, go_sem]) rfl (ev_some (z := (xe, xf)) HR (by repeat (first | exact Below.refl _ _ | assumption | refine bl_drewN ?_ _ | refine bl_drew ?_ | refine bl_alloc ?_ _ | refine bl_set ?_ (by first | (simp; done) | (simp; omega) | omega | (simp [World.setCell]; done) | (simp [World.setCell]; omega)) _ | refine bl_call ?_ (by assumption))))
theorem evI_eq (z y : Nat × Nat) (b off cap : Nat) (sv : Value) (w : World) (hb : b < w.heap.size) (q : w.cell? ⟨b, off, none⟩ = some (zv z)) (q1 : w.cell? ⟨b, off + 1, none⟩ = some (zv y)) :
    Calls Try.prog 22 #[ndV ⟨12, 0, 0, 0⟩, .slice (some ⟨b, off, none⟩) 2 cap, sv] w (EvEnd (some (if eqZ z y then cz (4607182418800017408, 0) else cz (0, 0))) w) := by
  cases he : eqZ z y
  · have hq' : (FloatKind.f64.format.order z.1 y.1 == some .eq && FloatKind.f64.format.order z.2 y.2 == some .eq) = false := he
    go_enter Try.func22, Try.ntmps22
    go_wp2_with fail
    go_region
    all_goals
      go_wp2
      exact bodyPost_ret (v := .tuple #[zv (0, 0), .bool true]) (by simp (maxDischargeDepth := 6) [results, Try.results22, go_sem]) rfl (ev_some (Res.self ⟨by decide, by decide⟩) (by repeat (first | exact Below.refl _ _ | assumption | refine bl_drewN ?_ _ | refine bl_drew ?_ | refine bl_alloc ?_ _ | refine bl_set ?_ (by first | (simp; done) | (simp; omega) | omega | (simp [World.setCell]; done) | (simp [World.setCell]; omega)) _ | refine bl_call ?_ (by assumption))))
  · have hq' : (FloatKind.f64.format.order z.1 y.1 == some .eq && FloatKind.f64.format.order z.2 y.2 == some .eq) = true := he
    go_enter Try.func22, Try.ntmps22
    go_wp2_with fail
    go_region
    all_goals
      go_wp2
      exact bodyPost_ret (v := .tuple #[zv (4607182418800017408, 0), .bool true]) (by simp (maxDischargeDepth := 6) [results, Try.results22, go_sem]) rfl (ev_some (Res.self ⟨by decide, by decide⟩) (by repeat (first | exact Below.refl _ _ | assumption | refine bl_drewN ?_ _ | refine bl_drew ?_ | refine bl_alloc ?_ _ | refine bl_set ?_ (by first | (simp; done) | (simp; omega) | omega | (simp [World.setCell]; done) | (simp [World.setCell]; omega)) _ | refine bl_call ?_ (by assumption))))
end Go.Proofs.Ytjacimccpadgeaa
