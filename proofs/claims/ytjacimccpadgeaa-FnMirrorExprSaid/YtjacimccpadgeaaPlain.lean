/- What evaluating a row gives with a unary plus or two unary minuses behind it: the same; and equality with oneself in the laws' words. No program in sight but the laws' 'same'. -/
import Derived.Test.YtjacimccpadgeaaEvT
namespace Go.Proofs.Ytjacimccpadgeaa
open Go.RowKit
set_option maxRecDepth 100000
set_option maxHeartbeats 4000000
set_option linter.unusedVariables false
set_option linter.unusedSimpArgs false

theorem same64_self (x : Nat) (w : World) (h : FinW x) : Calls Try.prog 30 #[.float .f64 x, .float .f64 x] w fun e w' => e = .returned (.bool true) ∧ ∃ n, w' = w.drewN n := by
  have h0 : (FloatKind.f64.format.order x x == some .eq) = true := by rw [h.order]; rfl
  have h1 : (FloatKind.f64.format.order x x != some .eq) = false := by rw [h.order]; rfl
  go_enter Try.func30, Try.ntmps30
  cases h2 : (FloatKind.f64.format.order x 0 != some .eq)
  · go_wp2_with (first | (refine wpl_farith 29 rfl rfl rfl rfl rfl rfl ?_; intro r1 n1 hr1) | (refine wpl_farith 31 rfl rfl rfl rfl rfl rfl ?_; intro r2 n2 hr2; have h3 := quo_self h h2 hr1.out.1 hr2.out.1))
    go_ret
    exact ⟨rfl, _, rfl⟩
  · go_wp2
    go_ret
    exact ⟨rfl, 0, (World.drewN_zero _).symm⟩
theorem sameL_self (z : Nat × Nat) (w : World) (h : ZFin z) : Calls Try.prog 13 #[zv z, zv z] w fun e w' => e = .returned (.bool true) ∧ ∃ n, w' = w.drewN n := by
  obtain ⟨h1, h2⟩ := h
  go_enter Try.func13, Try.ntmps13
  go_wp2_with (first | (go_at_call 30; (with_reducible refine (same64_self z.1 _ h1).mono ?_); rintro e w1 ⟨rfl, n1, hw⟩; subst hw) | (go_at_call 30; (with_reducible refine (same64_self z.2 _ h2).mono ?_); rintro e w1 ⟨rfl, n2, hw⟩; subst hw))
  go_ret
  exact ⟨rfl, _, rfl⟩

theorem ZFin.finZ {z : Nat × Nat} (h : ZFin z) : finZ z = true := by
  unfold _root_.Go.Proofs.Ytjacimccpadgeaa.finZ
  rw [h.1.finB, h.2.finB]; rfl
theorem ZFin.neg {z : Nat × Nat} (h : ZFin z) : ZFin (nz z) := ⟨⟨neg_lt .f64 h.1.1, by rw [ru_neg .f64 h.1.1]; exact h.1.2⟩, ⟨neg_lt .f64 h.2.1, by rw [ru_neg .f64 h.2.1]; exact h.2.2⟩⟩
theorem finC_self {z : Nat × Nat} (h : ZFin z) : finC (cz z) = some z := by
  rw [finC_of (Res.self h.ok), h.finZ]; rfl
theorem nz_nz {z : Nat × Nat} (h : ZFin z) : nz (nz z) = z := by
  show (Op.negFloat .f64 (Op.negFloat .f64 z.1), Op.negFloat .f64 (Op.negFloat .f64 z.2)) = z
  rw [neg_neg .f64 h.1.1, neg_neg .f64 h.2.1]
theorem evs_plus {z : Nat × Nat} (zs : List (Nat × Nat)) (h : ZFin z) : evs zs [⟨3, 0, 0, 0⟩] [z] = some [z] := by
  have e : stp ⟨3, 0, 0, 0⟩ [z] zs = ((some (cz z) : Option C2).bind finC).map fun y => [] ++ [y] := rfl
  show (stp ⟨3, 0, 0, 0⟩ [z] zs).bind _ = _
  rw [e]
  show ((finC (cz z)).map fun y => [] ++ [y]).bind _ = _
  rw [finC_self h]
  rfl
theorem stp_minus {z : Nat × Nat} (zs : List (Nat × Nat)) (h : ZFin z) : stp ⟨4, 0, 0, 0⟩ [z] zs = some [nz z] := by
  have e : stp ⟨4, 0, 0, 0⟩ [z] zs = ((some (cz (nz z)) : Option C2).bind finC).map fun y => [] ++ [y] := rfl
  rw [e]
  show (finC (cz (nz z))).map _ = _
  rw [finC_self h.neg]
  rfl
theorem evs_minus {z : Nat × Nat} (zs : List (Nat × Nat)) (h : ZFin z) : evs zs [⟨4, 0, 0, 0⟩, ⟨4, 0, 0, 0⟩] [z] = some [z] := by
  show (stp ⟨4, 0, 0, 0⟩ [z] zs).bind (fun st' => (stp ⟨4, 0, 0, 0⟩ st' zs).bind fun st'' => evs zs [] st'') = _
  rw [stp_minus zs h]
  show (stp ⟨4, 0, 0, 0⟩ [nz z] zs).bind _ = _
  rw [stp_minus zs h.neg, nz_nz h]
  rfl
theorem evs_more {l m : List Nd} {zs : List (Nat × Nat)} {r : Option (List (Nat × Nat))} (hr : evs zs l [] = r) (hm : ∀ z, r = some [z] → evs zs m [z] = some [z]) (hone : ∀ st, r = some st → ∃ z, st = [z]) : evs zs (l ++ m) [] = r := by
  rw [evs_append, hr]
  cases r with
  | none => rfl
  | some st =>
    obtain ⟨z, rfl⟩ := hone st rfl
    exact hm z rfl
theorem evs_one {l : List Nd} {zs st : List (Nat × Nat)} (hex : IsEx l) (h : evs zs l [] = some st) : ∃ z, st = [z] := by
  have := evs_len zs l [] st 1 h (hex 0)
  exact List.length_eq_one_iff.1 this

/-! ### The contracts where the value is known -/
section
variable {l : List Nd} {zs : List (Nat × Nat)} {v u : Value} {w : World} {z : Nat × Nat}
theorem evI_val (hv : NView w v l) (hu : SView w u zs) (hl : 1 ≤ l.length ∧ l.length ≤ 60) (hg : ∀ x ∈ l, GoodN x) (hex : IsEx l) (hzs : ∀ z ∈ zs, ZOk z) (hzl : zs.length ≤ 5) (h : evs zs l [] = some [z]) :
    Calls Try.prog 10 #[v, u] w fun e w' => e = .returned (.tuple #[zv z, .bool true]) ∧ ZFin z ∧ Below w.heap.size w w' := by
  refine (evalI_any l zs v u w hv hu hl hg hex hzs hzl).mono ?_
  rintro e w' ⟨y, ok, rfl, ho, hb⟩
  rw [h] at ho
  obtain ⟨rfl, h1, h2⟩ := ho
  obtain rfl : z = y := by simpa using h1
  exact ⟨rfl, h2, hb⟩
theorem evI_no (hv : NView w v l) (hu : SView w u zs) (hl : 1 ≤ l.length ∧ l.length ≤ 60) (hg : ∀ x ∈ l, GoodN x) (hex : IsEx l) (hzs : ∀ z ∈ zs, ZOk z) (hzl : zs.length ≤ 5) (h : evs zs l [] = none) :
    Calls Try.prog 10 #[v, u] w fun e w' => ∃ y, e = .returned (.tuple #[zv y, .bool false]) ∧ Below w.heap.size w w' := by
  refine (evalI_any l zs v u w hv hu hl hg hex hzs hzl).mono ?_
  rintro e w' ⟨y, ok, rfl, ho, hb⟩
  rw [h] at ho
  obtain rfl : ok = false := ho
  exact ⟨y, rfl, hb⟩
theorem evS_is (hv : NView w v l) (hu : SView w u zs) (hl : 1 ≤ l.length ∧ l.length ≤ 60) (hg : ∀ x ∈ l, GoodN x) (hex : IsEx l) (hzs : ∀ z ∈ zs, ZOk z) (hzl : zs.length ≤ 5) {b : Bool} (h : (evs zs l []).isSome = b) :
    Calls Try.prog 12 #[v, u] w fun e w' => ∃ y, e = .returned (.tuple #[zv y, .bool b]) ∧ Below w.heap.size w w' := by
  refine (evalS_any l zs v u w hv hu hl hg hex hzs hzl).mono ?_
  rintro e w' ⟨y, ok, rfl, ho, hb⟩
  cases hq : evs zs l [] with
  | none =>
    rw [hq] at ho h
    obtain rfl : ok = false := ho
    subst h
    exact ⟨y, rfl, hb⟩
  | some st =>
    rw [hq] at ho h
    obtain ⟨rfl, _⟩ := ho
    subst h
    exact ⟨y, rfl, hb⟩
end
end Go.Proofs.Ytjacimccpadgeaa
