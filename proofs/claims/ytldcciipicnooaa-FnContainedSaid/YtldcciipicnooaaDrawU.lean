/- The draw of a unit and three numbers: it comes back with a unit of a good form; the numbers are any. -/
import Derived.Test.YtldcciipicnooaaDraw
namespace Go.Proofs.Ytldcciipicnooaa
open Go.RowKit
attribute [local go_sem] run_neg_float run_neg_complex

theorem l01New_at (c : Nat) (A : Option Addr) (len cap : Nat) (w : World) (hcw : c = w.heap.size) (hlen : len ≤ maxLen) (hrow : RowOk c w A len) :
    Calls Try.prog 52 #[.slice A len cap] w fun e w' => e = .returned (.pointer (some ⟨c, 0, none⟩)) ∧ CurOk c w' ∧ Below c w w' := by
  subst hcw
  exact l01New_any A len cap w hlen hrow
theorem RowOk.more {c : Nat} {w w' : World} {A : Option Addr} {len : Nat} (h : RowOk w.heap.size w A len) (hb : Below w.heap.size w w') (hc : w.heap.size ≤ c) : RowOk c w' A len := fun k hl => by
  obtain ⟨x, n, h1, h2, h4, h5⟩ := h k hl
  exact ⟨x, n, h1, by omega, (hb.cell h2).trans h4, h5⟩
theorem bl_kept {c : Nat} {a b d : World} (h : Below a.heap.size a b) (hk : Kept c b d) (hc : a.heap.size ≤ c) : Below a.heap.size a d := h.trans (hk.below hc h.size)

def DuEnd (w : World) (en : Ending) (w' : World) : Prop := ∃ s m e x1 x2 y1 y2 z1 z2, (s = txt [43] ∨ s = txt [45]) ∧ 1 ≤ m ∧ m ≤ 16777215 ∧ -149 ≤ e ∧ e ≤ 60 ∧
  en = .returned (.tuple #[.agg #[.string s, .int .i64 m, .int .i64 e], .complex .f32 x1 x2, .complex .f32 y1 y2, .complex .f32 z1 z2]) ∧ Below w.heap.size w w'
set_option maxRecDepth 100000 in
set_option maxHeartbeats 1000000 in
theorem drawUnit_any (A : Option Addr) (len cap : Nat) (w : World) (hlen : len ≤ maxLen) (hrow : RowOk w.heap.size w A len) :
    Calls Try.prog 41 #[.slice A len cap] w (DuEnd w) := by
  go_enter Try.func41, Try.ntmps41
  go_wp2_with (first | (go_at_call 52; (with_reducible refine (l01New_at (w.heap.size + 1) A len cap _ (by simp) hlen (hrow.more (by repeat (first | exact Below.refl _ _ | assumption | refine bl_drewN ?_ _ | refine bl_drew ?_ | refine bl_alloc ?_ _ | refine bl_set ?_ (by first | (simp; done) | (simp; omega) | omega | (simp [World.setCell]; done) | (simp [World.setCell]; omega)) _ | refine bl_call ?_ (by assumption))) (by omega))).mono ?_); rintro e w1 ⟨rfl, hc1, hb1⟩; have hz1 := hc1.lt; have R1 : Blk w1 w.heap.size 54 #[.string ⟨#[]⟩, .int .i64 0, .int .i64 0] := Blk.below (Blk.new w _ _) hb1 (by omega)) | (go_at_call 67; (with_reducible refine (l10Unit_any _ _ (by first | assumption | exact CurOk.below (by assumption) (by repeat (first | exact Below.refl _ _ | assumption | refine bl_drewN ?_ _ | refine bl_drew ?_ | refine bl_alloc ?_ _ | refine bl_set ?_ (by first | (simp; done) | (simp; omega) | omega | (simp [World.setCell]; done) | (simp [World.setCell]; omega)) _ | refine bl_call ?_ (by assumption))))).mono ?_); rintro e w2 ⟨s, m, x, hs, hm1, hm2, hx1, hx2, rfl, hc2, hk2⟩; have hz2 := hc2.lt; have R2 := R1.kept hk2 (by omega); simp only [unitB]) | (go_at_call 68; (with_reducible refine (l10Number2_any _ _ _ _ _ (by first | assumption | exact CurOk.below (by assumption) (by repeat (first | exact Below.refl _ _ | assumption | refine bl_drewN ?_ _ | refine bl_drew ?_ | refine bl_alloc ?_ _ | refine bl_set ?_ (by first | (simp; done) | (simp; omega) | omega | (simp [World.setCell]; done) | (simp [World.setCell]; omega)) _ | refine bl_call ?_ (by assumption))))).mono ?_); rintro e w8 ⟨z1, z2, rfl, hc8, hk8⟩; have hz8 := hc8.lt; have U8 : Blk w8 w2.heap.size 54 #[.string s, .int .i64 m, .int .i64 x] := Blk.kept (by first | exact U7) hk8 (by omega); have R8 : Blk w8 w.heap.size 54 #[.string ⟨#[]⟩, .int .i64 0, .int .i64 0] := Blk.kept (by first | exact R7) hk8 (by omega); have u0 := U8.cell 0; have u1 := U8.cell 1; have u2 := U8.cell 2; have f0 := R8.frozen 0; have f1 := R8.frozen 1; have f2 := R8.frozen 2; have r0 := R8.cell 0; have r1 := R8.cell 1; have r2 := R8.cell 2; simp only [List.getElem?_toArray, List.getElem?_cons_zero, List.getElem?_cons_succ] at u0 u1 u2 r0 r1 r2) | (go_at_call 68; (with_reducible refine (l10Number2_any _ _ _ _ _ (by first | assumption | exact CurOk.below (by assumption) (by repeat (first | exact Below.refl _ _ | assumption | refine bl_drewN ?_ _ | refine bl_drew ?_ | refine bl_alloc ?_ _ | refine bl_set ?_ (by first | (simp; done) | (simp; omega) | omega | (simp [World.setCell]; done) | (simp [World.setCell]; omega)) _ | refine bl_call ?_ (by assumption))))).mono ?_); rintro e w3 ⟨x1, x2, rfl, hc3, hk3⟩; have hz3 := hc3.lt; have U3 : Blk w3 w2.heap.size 54 #[.string s, .int .i64 m, .int .i64 x] := Blk.kept (by exact Blk.new_at w2 _ _ rfl) hk3 (by omega); have R3 : Blk w3 w.heap.size 54 #[.string ⟨#[]⟩, .int .i64 0, .int .i64 0] := Blk.kept (by exact R2.alloc _) hk3 (by omega); have u0 := U3.cell 0; have u1 := U3.cell 1; have u2 := U3.cell 2; have f0 := R3.frozen 0; have f1 := R3.frozen 1; have f2 := R3.frozen 2; have r0 := R3.cell 0; have r1 := R3.cell 1; have r2 := R3.cell 2; simp only [List.getElem?_toArray, List.getElem?_cons_zero, List.getElem?_cons_succ] at u0 u1 u2 r0 r1 r2) | (go_at_call 69; (with_reducible refine (nextUp_any _ _).mono ?_); rintro e w4 ⟨y1, rfl, n4, rfl⟩) | (go_at_call 71; (with_reducible refine (nextDown_any _ _).mono ?_); rintro e w5 ⟨z2, rfl, n5, rfl⟩) | (go_at_call 70; (with_reducible refine (l01Once_i _ _ 3 _ (by first | assumption | exact CurOk.below (by assumption) (by repeat (first | exact Below.refl _ _ | assumption | refine bl_drewN ?_ _ | refine bl_drew ?_ | refine bl_alloc ?_ _ | refine bl_set ?_ (by first | (simp; done) | (simp; omega) | omega | (simp [World.setCell]; done) | (simp [World.setCell]; omega)) _ | refine bl_call ?_ (by assumption)))) (by decide) (by decide) (by decide)).mono ?_); rintro e w7 ⟨k7, rfl, hc7, hk7⟩; have hz7 := hc7.lt; have U7 : Blk w7 w2.heap.size 54 #[.string s, .int .i64 m, .int .i64 x] := Blk.kept (by first | exact U6) hk7 (by omega); have R7 : Blk w7 w.heap.size 54 #[.string ⟨#[]⟩, .int .i64 0, .int .i64 0] := Blk.kept (by first | exact R6) hk7 (by omega); have u0 := U7.cell 0; have u1 := U7.cell 1; have u2 := U7.cell 2; have f0 := R7.frozen 0; have f1 := R7.frozen 1; have f2 := R7.frozen 2; have r0 := R7.cell 0; have r1 := R7.cell 1; have r2 := R7.cell 2; simp only [List.getElem?_toArray, List.getElem?_cons_zero, List.getElem?_cons_succ] at u0 u1 u2 r0 r1 r2) | (go_at_call 70; (with_reducible refine (l01Once_i _ _ 3 _ (by first | assumption | exact CurOk.below (by assumption) (by repeat (first | exact Below.refl _ _ | assumption | refine bl_drewN ?_ _ | refine bl_drew ?_ | refine bl_alloc ?_ _ | refine bl_set ?_ (by first | (simp; done) | (simp; omega) | omega | (simp [World.setCell]; done) | (simp [World.setCell]; omega)) _ | refine bl_call ?_ (by assumption)))) (by decide) (by decide) (by decide)).mono ?_); rintro e w6 ⟨k6, rfl, hc6, hk6⟩; have hz6 := hc6.lt; have U6 : Blk w6 w2.heap.size 54 #[.string s, .int .i64 m, .int .i64 x] := Blk.kept (by first | exact U3) hk6 (by omega); have R6 : Blk w6 w.heap.size 54 #[.string ⟨#[]⟩, .int .i64 0, .int .i64 0] := Blk.kept (by first | exact R3) hk6 (by omega); have u0 := U6.cell 0; have u1 := U6.cell 1; have u2 := U6.cell 2; have f0 := R6.frozen 0; have f1 := R6.frozen 1; have f2 := R6.frozen 2; have r0 := R6.cell 0; have r1 := R6.cell 1; have r2 := R6.cell 2; simp only [List.getElem?_toArray, List.getElem?_cons_zero, List.getElem?_cons_succ] at u0 u1 u2 r0 r1 r2))
  · have q0 := (R8.set_ 0 (.string s)).cell 0
    have q1 := ((R8.set_ 0 (.string s)).set_ 1 (.int .i64 m)).cell 1
    have q2 := (((R8.set_ 0 (.string s)).set_ 1 (.int .i64 m)).set_ 2 (.int .i64 x)).cell 2
    simp at q0 q1 q2
    refine bodyPost_ret (v := .tuple #[.agg #[.string s, .int .i64 m, .int .i64 x], .complex .f32 x1 x2, .complex .f32 x1 x2, .complex .f32 z1 z2]) (by simp (maxDischargeDepth := 6) [results, Try.results41, go_sem, q0, q1, q2]) rfl ⟨s, m, x, _, _, _, _, _, _, hs, hm1, hm2, hx1, hx2, rfl, ?_⟩
    refine bl_set (bl_set (bl_set ?_ (by simp) _) (by simp) _) (by simp) _
    refine bl_kept (c := w.heap.size + 1) (b := w1) ((bl_alloc (Below.refl _ _) _).trans (hb1.mono (by omega))) ?_ (by omega)
    repeat (first | exact Kept.refl _ _ | assumption | refine kp_drewN ?_ _ | refine kp_alloc ?_ _ | refine kp_set ?_ _ _ | refine kp_bl ?_ (by assumption) | refine kp_call ?_ (by assumption) | refine kp_drew ?_)
  · have q0 := (R7.set_ 0 (.string s)).cell 0
    have q1 := ((R7.set_ 0 (.string s)).set_ 1 (.int .i64 m)).cell 1
    have q2 := (((R7.set_ 0 (.string s)).set_ 1 (.int .i64 m)).set_ 2 (.int .i64 x)).cell 2
    simp at q0 q1 q2
    refine bodyPost_ret (v := .tuple #[.agg #[.string s, .int .i64 m, .int .i64 x], .complex .f32 x1 x2, .complex .f32 x1 x2, .complex .f32 x1 z2]) (by simp (maxDischargeDepth := 6) [results, Try.results41, go_sem, q0, q1, q2]) rfl ⟨s, m, x, _, _, _, _, _, _, hs, hm1, hm2, hx1, hx2, rfl, ?_⟩
    refine bl_set (bl_set (bl_set ?_ (by simp) _) (by simp) _) (by simp) _
    refine bl_kept (c := w.heap.size + 1) (b := w1) ((bl_alloc (Below.refl _ _) _).trans (hb1.mono (by omega))) ?_ (by omega)
    repeat (first | exact Kept.refl _ _ | assumption | refine kp_drewN ?_ _ | refine kp_alloc ?_ _ | refine kp_set ?_ _ _ | refine kp_bl ?_ (by assumption) | refine kp_call ?_ (by assumption) | refine kp_drew ?_)
  · have q0 := (R8.set_ 0 (.string s)).cell 0
    have q1 := ((R8.set_ 0 (.string s)).set_ 1 (.int .i64 m)).cell 1
    have q2 := (((R8.set_ 0 (.string s)).set_ 1 (.int .i64 m)).set_ 2 (.int .i64 x)).cell 2
    simp at q0 q1 q2
    refine bodyPost_ret (v := .tuple #[.agg #[.string s, .int .i64 m, .int .i64 x], .complex .f32 x1 x2, .complex .f32 y1 x2, .complex .f32 z1 z2]) (by simp (maxDischargeDepth := 6) [results, Try.results41, go_sem, q0, q1, q2]) rfl ⟨s, m, x, _, _, _, _, _, _, hs, hm1, hm2, hx1, hx2, rfl, ?_⟩
    refine bl_set (bl_set (bl_set ?_ (by simp) _) (by simp) _) (by simp) _
    refine bl_kept (c := w.heap.size + 1) (b := w1) ((bl_alloc (Below.refl _ _) _).trans (hb1.mono (by omega))) ?_ (by omega)
    repeat (first | exact Kept.refl _ _ | assumption | refine kp_drewN ?_ _ | refine kp_alloc ?_ _ | refine kp_set ?_ _ _ | refine kp_bl ?_ (by assumption) | refine kp_call ?_ (by assumption) | refine kp_drew ?_)
  · have q0 := (R7.set_ 0 (.string s)).cell 0
    have q1 := ((R7.set_ 0 (.string s)).set_ 1 (.int .i64 m)).cell 1
    have q2 := (((R7.set_ 0 (.string s)).set_ 1 (.int .i64 m)).set_ 2 (.int .i64 x)).cell 2
    simp at q0 q1 q2
    refine bodyPost_ret (v := .tuple #[.agg #[.string s, .int .i64 m, .int .i64 x], .complex .f32 x1 x2, .complex .f32 y1 x2, .complex .f32 y1 z2]) (by simp (maxDischargeDepth := 6) [results, Try.results41, go_sem, q0, q1, q2]) rfl ⟨s, m, x, _, _, _, _, _, _, hs, hm1, hm2, hx1, hx2, rfl, ?_⟩
    refine bl_set (bl_set (bl_set ?_ (by simp) _) (by simp) _) (by simp) _
    refine bl_kept (c := w.heap.size + 1) (b := w1) ((bl_alloc (Below.refl _ _) _).trans (hb1.mono (by omega))) ?_ (by omega)
    repeat (first | exact Kept.refl _ _ | assumption | refine kp_drewN ?_ _ | refine kp_alloc ?_ _ | refine kp_set ?_ _ _ | refine kp_bl ?_ (by assumption) | refine kp_call ?_ (by assumption) | refine kp_drew ?_)
end Go.Proofs.Ytldcciipicnooaa
