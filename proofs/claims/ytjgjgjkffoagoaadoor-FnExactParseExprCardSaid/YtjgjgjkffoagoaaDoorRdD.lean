/- The reader of expressions walked: its functions come to what the plain function says. Condition: the table of powers of ten is laid. (printed by genrdd.py) -/
import Derived.Test.YtjgjgjkffoagoaaDoorPrs
namespace Go.Proofs.YtjgjgjkffoagoaaDoor
open Go.RowKit
attribute [local go_sem] run_store_float run_store_complex
set_option maxRecDepth 100000
set_option maxHeartbeats 2000000
set_option linter.unusedVariables false
set_option linter.unusedSimpArgs false

section
variable {w0 wb w w' : World} {s : List UInt8} {i i' : Nat} {out out' : List Nd} {f : Bool} {r : Option St}
theorem RdR.some (h : RdR w0 wb s w' i out (some (i', out'))) : Rd w0 wb s w' i' out' false ∧ i ≤ i' ∧ out'.length + i ≤ out.length + i' := by
  obtain ⟨a, b, h1, h2, h3, h4⟩ := h
  have := h2 _ rfl
  cases this
  exact ⟨h1, h3, h4⟩
theorem RdR.fail (h : RdR w0 wb s w' i out none) : ∃ i' out', Rd w0 wb s w' i' out' true ∧ i ≤ i' ∧ out'.length + i ≤ out.length + i' := by
  obtain ⟨a, b, h1, h2, h3, h4⟩ := h
  exact ⟨a, b, h1, h3, h4⟩
theorem rd_no (h : Rd w0 wb s w' i' out' true) (hi : i ≤ i') (ho : out'.length + i ≤ out.length + i') (hr : r = none) : RdR w0 wb s w' i out r := by
  subst hr
  exact ⟨i', out', h, fun p hp => (by cases hp), hi, ho⟩
theorem Rd.rebase (h : Rd w0 wb s w i out f) : Rd w0 w s w i out f := by
  obtain ⟨v, a, b, c, d, e⟩ := h
  exact ⟨v, a, b, c, d, Fr.refl _ _⟩
theorem Rd.onto {w1 : World} (hf : Fr w0 wb w1) (h : Rd w0 w1 s w i out f) : Rd w0 wb s w i out f := by
  obtain ⟨v, a, b, c, d, e⟩ := h
  exact ⟨v, a, b, c, d, hf.trans e⟩
theorem RdR.onto {w1 : World} (hf : Fr w0 wb w1) (h : RdR w0 w1 s w' i out r) : RdR w0 wb s w' i out r := by
  obtain ⟨a, b, h1, h2, h3, h4⟩ := h
  exact ⟨a, b, h1.onto hf, h2, h3, h4⟩
end
/-- A block of one's own made before the reader's functions ran is as it was. -/
theorem blk_kept {w0 w w' : World} {b : Nat} {t : TypeId} {cs : Array Value} (h : Blk w b t cs) (hf : Fr w0 w w') (hc : b ≠ w0.heap.size) (hv : ∀ v, w.cell? ⟨w0.heap.size, 2, none⟩ = some v → v.ownBlock ≠ some b) : Blk w' b t cs := (hf.fr b h.lt hc hv).trans h
theorem own_lt {w0 wb w : World} {s : List UInt8} {i : Nat} {out : List Nd} {f : Bool} (h : Rd w0 wb s w i out f) {v : Value} (hv : w.cell? ⟨w0.heap.size, 2, none⟩ = some v) {g : Nat} (hg : v.ownBlock = some g) : g < w.heap.size := by
  obtain ⟨v', a, b, _⟩ := h
  have := Option.some.inj (hv.symm.trans (a.cell 2))
  subst this
  exact (b.lt g hg).2

/-! ### After a failure -/
theorem factor_fail (w0 wb w : World) (s : List UInt8) (i : Nat) (out : List Nd) (h : Rd w0 wb s w i out true) :
    Calls Tryd.prog 41 #[.pointer (some ⟨w0.heap.size, 0, none⟩)] w (RdEnd w0 wb s i out none) := by
  have H := Lib.hid h
  obtain ⟨q0, q1, q3, f1, f2, f3⟩ := h.cells
  clear h
  go_enter Tryd.func41, Tryd.ntmps41
  go_wp2
  refine bodyPost_ret (results_none rfl _ _ _) rfl ⟨rfl, rd_no H.out (Nat.le_refl _) (Nat.le_refl _) rfl⟩
theorem level_fail3 (w0 wb w : World) (s : List UInt8) (i : Nat) (out : List Nd) (h : Rd w0 wb s w i out true) :
    Calls Tryd.prog 24 #[.pointer (some ⟨w0.heap.size, 0, none⟩), .int .i64 3] w (RdEnd w0 wb s i out none) := by
  have H := Lib.hid h
  clear h
  go_enter Tryd.func24, Tryd.ntmps24
  go_wp2_with fail
  go_at_call 41
  refine (factor_fail w0 wb _ s i out H.out).mono ?_
  rintro e w1 ⟨rfl, hr⟩
  have HR := Lib.hid hr
  clear hr
  go_wp2
  first
    | refine bodyPost_end (results_none rfl _ _ _) rfl ⟨rfl, HR.out⟩
    | refine bodyPost_ret (results_none rfl _ _ _) rfl ⟨rfl, HR.out⟩
theorem level_fail2 (w0 wb w : World) (s : List UInt8) (i : Nat) (out : List Nd) (h : Rd w0 wb s w i out true) :
    Calls Tryd.prog 24 #[.pointer (some ⟨w0.heap.size, 0, none⟩), .int .i64 2] w (RdEnd w0 wb s i out none) := by
  have H := Lib.hid h
  clear h
  go_enter Tryd.func24, Tryd.ntmps24
  go_wp2_with fail
  go_at_call 24
  refine (level_fail3 w0 wb _ s i out (H.out.below (by repeat (first | exact Below.refl _ _ | assumption | refine bl_drewN ?_ _ | refine bl_drew ?_ | refine bl_alloc ?_ _ | refine bl_set ?_ (by first | (simp; done) | (simp; omega) | omega | (simp [World.setCell]; done) | (simp [World.setCell]; omega)) _ | refine bl_call ?_ (by assumption))))).mono ?_
  rintro e w1 ⟨rfl, hr⟩
  obtain ⟨i1, out1, h1, h2, h3⟩ := hr.fail
  have HR := Lib.hid hr
  obtain ⟨q0, q1, q3, f1, f2, f3⟩ := h1.cells
  clear hr h1
  go_wp2
  go_loopw [] (fun wr => wr = w1) (fun _ => 0)
  case atStart => rfl
  case round =>
    have hrel := hrel.symm
    subst hrel
    go_wp2
    first
      | refine bodyPost_end (results_none rfl _ _ _) rfl ⟨rfl, HR.out⟩
      | refine bodyPost_ret (results_none rfl _ _ _) rfl ⟨rfl, HR.out⟩
theorem level_fail1 (w0 wb w : World) (s : List UInt8) (i : Nat) (out : List Nd) (h : Rd w0 wb s w i out true) :
    Calls Tryd.prog 24 #[.pointer (some ⟨w0.heap.size, 0, none⟩), .int .i64 1] w (RdEnd w0 wb s i out none) := by
  have H := Lib.hid h
  clear h
  go_enter Tryd.func24, Tryd.ntmps24
  go_wp2_with fail
  go_at_call 24
  refine (level_fail2 w0 wb _ s i out (H.out.below (by repeat (first | exact Below.refl _ _ | assumption | refine bl_drewN ?_ _ | refine bl_drew ?_ | refine bl_alloc ?_ _ | refine bl_set ?_ (by first | (simp; done) | (simp; omega) | omega | (simp [World.setCell]; done) | (simp [World.setCell]; omega)) _ | refine bl_call ?_ (by assumption))))).mono ?_
  rintro e w1 ⟨rfl, hr⟩
  obtain ⟨i1, out1, h1, h2, h3⟩ := hr.fail
  have HR := Lib.hid hr
  obtain ⟨q0, q1, q3, f1, f2, f3⟩ := h1.cells
  clear hr h1
  go_wp2
  go_loopw [] (fun wr => wr = w1) (fun _ => 0)
  case atStart => rfl
  case round =>
    have hrel := hrel.symm
    subst hrel
    go_wp2
    first
      | refine bodyPost_end (results_none rfl _ _ _) rfl ⟨rfl, HR.out⟩
      | refine bodyPost_ret (results_none rfl _ _ _) rfl ⟨rfl, HR.out⟩
theorem level_fail0 (w0 wb w : World) (s : List UInt8) (i : Nat) (out : List Nd) (h : Rd w0 wb s w i out true) :
    Calls Tryd.prog 24 #[.pointer (some ⟨w0.heap.size, 0, none⟩), .int .i64 0] w (RdEnd w0 wb s i out none) := by
  have H := Lib.hid h
  clear h
  go_enter Tryd.func24, Tryd.ntmps24
  go_wp2_with fail
  go_at_call 24
  refine (level_fail1 w0 wb _ s i out (H.out.below (by repeat (first | exact Below.refl _ _ | assumption | refine bl_drewN ?_ _ | refine bl_drew ?_ | refine bl_alloc ?_ _ | refine bl_set ?_ (by first | (simp; done) | (simp; omega) | omega | (simp [World.setCell]; done) | (simp [World.setCell]; omega)) _ | refine bl_call ?_ (by assumption))))).mono ?_
  rintro e w1 ⟨rfl, hr⟩
  obtain ⟨i1, out1, h1, h2, h3⟩ := hr.fail
  have HR := Lib.hid hr
  obtain ⟨q0, q1, q3, f1, f2, f3⟩ := h1.cells
  clear hr h1
  go_wp2
  go_loopw [] (fun wr => wr = w1) (fun _ => 0)
  case atStart => rfl
  case round =>
    have hrel := hrel.symm
    subst hrel
    go_wp2
    first
      | refine bodyPost_end (results_none rfl _ _ _) rfl ⟨rfl, HR.out⟩
      | refine bodyPost_ret (results_none rfl _ _ _) rfl ⟨rfl, HR.out⟩
end Go.Proofs.YtjgjgjkffoagoaaDoor
