/- The draw of two spans and a number of each. -/
import Derived.Test.YtldcciipicnooaaSpanD
import Derived.Deep.RegionWith
namespace Go.Proofs.Ytldcciipicnooaa
open Go.RowKit
attribute [local go_sem] run_neg_float run_neg_complex run_store_float run_store_complex

/-- A slice of singles whose cells are known to be there. -/
def FRow (w : World) (A : Option Addr) (len : Nat) : Prop := ∀ k : Nat, k < len → ∃ (x : Addr) (v : Nat), A = some x ∧ w.cell? (x.add k) = some (.float .f32 v)
theorem FRow.drewN {w : World} {A : Option Addr} {len : Nat} (h : FRow w A len) (n : Nat) : FRow (w.drewN n) A len := h

def GdEnd (w : World) (e : Ending) (w' : World) : Prop := ∃ k, e = .returned (.bool k) ∧ ∃ n, w' = w.drewN n
def SmEnd (w : World) (e : Ending) (w' : World) : Prop := ∃ x k, e = .returned (.tuple #[.float .f64 x, .bool k]) ∧ ∃ n, w' = w.drewN n
def SmRel (len : Nat) (w : World) (s i : Value) (wr : World) : Prop := ∃ (c k n : Nat), s = .float .f64 c ∧ k ≤ len ∧ i = .int .i64 (k : Int) ∧ wr = w.drewN n
set_option maxRecDepth 100000 in
theorem l06Good_any (A : Option Addr) (len cap : Nat) (w : World) (hl : len ≤ 64) (h : FRow w A len) :
    Calls Try.prog 97 #[.slice A len cap] w (GdEnd w) := by
  have h64 : ¬ (64 : Int) < (len : Int) := by omega
  go_enter Try.func97, Try.ntmps97
  go_wp2
  go_loopw [3] (fun i wr => ∃ (k n : Nat), k ≤ len ∧ i = .int .i64 (k : Int) ∧ wr = w.drewN n) (fun i _ => len - (intOf i).toNat)
  case atStart => exact ⟨0, 0, by omega, rfl, rfl⟩
  case round =>
    obtain ⟨k, n, hk, rfl, rfl⟩ := hrel
    by_cases hlt : k < len
    · obtain ⟨x, v, rfl, hx⟩ := h k hlt
      have hx' : (w.drewN n).cell? (x.add k) = some (.float .f32 v) := hx
      have h1 : (k : Int) < (len : Int) := by omega
      go_wp2_with (first | (refine wpl_widen 17 Try.underlying24 Try.underlying39 rfl rfl rfl rfl ?_; intro r1 n1 hr1) | (go_at_call 63; (with_reducible refine (l01Fine_any _ _).mono ?_); rintro e w2 ⟨rfl, n2, rfl⟩))
      · go_ret
        exact ⟨_, rfl, _, rfl⟩
      · refine ⟨⟨k + 1, _, by omega, ?_, rfl⟩, ?_⟩
        · exact congrArg (Value.int .i64) (by omega)
        · show len - ((k : Int) + 1).toNat < len - (k : Int).toNat
          omega
    · have h1 : ¬ (k : Int) < (len : Int) := by omega
      go_wp2
      go_ret
      exact ⟨_, rfl, _, rfl⟩
set_option maxRecDepth 100000 in
theorem sumInOrder_any (A : Option Addr) (len cap : Nat) (w : World) (hl : len ≤ 64) (h : FRow w A len) :
    Calls Try.prog 84 #[.slice A len cap] w (SmEnd w) := by
  go_enter Try.func84, Try.ntmps84
  go_wp2_with fail
  refine (l06Good_any _ _ _ _ hl h).mono ?_
  rintro e w2 ⟨k, rfl, n, rfl⟩
  cases k
  · go_wp2
    go_ret2
    exact ⟨_, _, rfl, _, rfl⟩
  · go_wp2
    go_loopw [4, 5] (fun s i wr => SmRel len w s i wr) (fun _ i _ => len - (intOf i).toNat)
    case atStart => exact ⟨_, 0, _, rfl, by omega, rfl, rfl⟩
    case round =>
      obtain ⟨c, k, n, rfl, hk, rfl, rfl⟩ := hrel
      by_cases hlt : k < len
      · obtain ⟨x, v, rfl, hx⟩ := h k hlt
        have hx' : (w.drewN n).cell? (x.add k) = some (.float .f32 v) := hx
        have h1 : (k : Int) < (len : Int) := by omega
        go_wp2_with (first | (refine wpl_widen 20 Try.underlying24 Try.underlying39 rfl rfl rfl rfl ?_; intro r1 n1 hr1) | (refine wpl_farith 21 rfl rfl rfl rfl rfl rfl ?_; intro r2 n2 hr2))
        refine ⟨⟨_, k + 1, _, rfl, by omega, ?_, rfl⟩, ?_⟩
        · exact congrArg (Value.int .i64) (by omega)
        · show len - ((k : Int) + 1).toNat < len - (k : Int).toNat
          omega
      · have h1 : ¬ (k : Int) < (len : Int) := by omega
        go_wp2
        go_ret2
        exact ⟨_, _, rfl, _, rfl⟩
set_option maxRecDepth 100000 in
theorem meanOf_any (A : Option Addr) (len cap : Nat) (w : World) (hl : len ≤ 64) (h : FRow w A len) :
    Calls Try.prog 58 #[.slice A len cap] w fun e w' => ∃ x k, e = .returned (.tuple #[.float .f32 x, .bool k]) ∧ ∃ n, w' = w.drewN n := by
  go_enter Try.func58, Try.ntmps58
  go_wp2_with (first | (go_at_call 84; (with_reducible refine (sumInOrder_any _ _ _ _ hl h).mono ?_); rintro e w2 ⟨x, k, rfl, n, rfl⟩) | (refine wpl_farith 22 rfl rfl rfl rfl rfl rfl ?_; intro r2 n2 hr2) | (refine wpl_narrow 23 Try.underlying39 Try.underlying24 rfl rfl rfl rfl ?_; intro r3 n3 hr3))
  all_goals
    go_ret2
    exact ⟨_, _, rfl, _, rfl⟩

theorem frow2 (w : World) (g : Nat) (a b : Nat) (h : g = w.heap.size) : FRow (w.alloc (.cells #[.float .f32 a, .float .f32 b] 24)) (some ⟨g, 0, none⟩) 2 := by
  subst h
  intro k hk
  have B := Blk.new w 24 #[.float .f32 a, .float .f32 b]
  have h0 := B.cell 0
  have h1 := B.cell 1
  match k, hk with
  | 0, _ => exact ⟨_, a, rfl, h0⟩
  | 1, _ => exact ⟨_, b, rfl, h1⟩
def DsEnd (w : World) (e : Ending) (w' : World) : Prop := ∃ a0 a1 b0 b1 x y, e = .returned (.tuple #[.agg #[.float .f32 a0, .float .f32 a1], .agg #[.float .f32 b0, .float .f32 b1], .float .f32 x, .float .f32 y]) ∧ SpG a0 a1 ∧ SpG b0 b1 ∧ Below w.heap.size w w'
theorem ds_cells {W : World} {g : Nat} {a b c d : Value} (P : Blk W g 26 #[a, b]) (Q : Blk W (g + 1) 26 #[c, d]) (u0 u1 u2 u3 : Value) :
    ((((W.setCell ⟨g, 0, none⟩ u0).setCell ⟨g, 1, none⟩ u1).setCell ⟨g + 1, 0, none⟩ u2).setCell ⟨g + 1, 1, none⟩ u3).cell? ⟨g, 0, none⟩ = some u0 ∧
    ((((W.setCell ⟨g, 0, none⟩ u0).setCell ⟨g, 1, none⟩ u1).setCell ⟨g + 1, 0, none⟩ u2).setCell ⟨g + 1, 1, none⟩ u3).cell? ⟨g, 1, none⟩ = some u1 ∧
    ((((W.setCell ⟨g, 0, none⟩ u0).setCell ⟨g, 1, none⟩ u1).setCell ⟨g + 1, 0, none⟩ u2).setCell ⟨g + 1, 1, none⟩ u3).cell? ⟨g + 1, 0, none⟩ = some u2 ∧
    ((((W.setCell ⟨g, 0, none⟩ u0).setCell ⟨g, 1, none⟩ u1).setCell ⟨g + 1, 0, none⟩ u2).setCell ⟨g + 1, 1, none⟩ u3).cell? ⟨g + 1, 1, none⟩ = some u3 := by
  have B1 := (((P.set_ 0 u0).set_ 1 u1).far (p := ⟨g + 1, 0, none⟩) (by simp) u2).far (p := ⟨g + 1, 1, none⟩) (by simp) u3
  have B2 := (((Q.far (p := ⟨g, 0, none⟩) (by simp) u0).far (p := ⟨g, 1, none⟩) (by simp) u1).set_ 0 u2).set_ 1 u3
  have q0 := B1.cell 0
  have q1 := B1.cell 1
  have q2 := B2.cell 0
  have q3 := B2.cell 1
  exact ⟨by simpa using q0, by simpa using q1, by simpa using q2, by simpa using q3⟩
theorem ds_end {w w1 W : World} {a0 a1 b0 b1 x y : Nat} {o1 o2 : Obj} {u0 u1 u2 u3 : Value} (h1 : SpG a0 a1) (h2 : SpG b0 b1) (hb : Below (w.heap.size + 2) ((w.alloc o1).alloc o2) w1) (hk : Kept (w.heap.size + 2) w1 W) (_hz : w.heap.size + 2 < w1.heap.size) :
    DsEnd w (.returned (.tuple #[.agg #[.float .f32 a0, .float .f32 a1], .agg #[.float .f32 b0, .float .f32 b1], .float .f32 x, .float .f32 y])) ((((W.setCell ⟨w.heap.size, 0, none⟩ u0).setCell ⟨w.heap.size, 1, none⟩ u1).setCell ⟨w.heap.size + 1, 0, none⟩ u2).setCell ⟨w.heap.size + 1, 1, none⟩ u3) := by
  refine ⟨_, _, _, _, _, _, rfl, h1, h2, ?_⟩
  refine bl_set (bl_set (bl_set (bl_set ?_ (by simp) _) (by simp) _) (by simp) _) (by simp) _
  exact bl_kept (c := w.heap.size + 2) (b := w1) ((bl_alloc (bl_alloc (Below.refl _ _) _) _).trans (hb.mono (by omega))) hk (by omega)
theorem ds_end' {w w1 W : World} {a0 a1 b0 b1 x y : Nat} {o1 o2 : Obj} {u0 u1 u2 u3 : Value} (h1 : SpG a0 a1) (h2 : SpG b0 b1) (hb : Below (w.heap.size + 2) ((w.alloc o1).alloc o2) w1) (hk : Kept (w.heap.size + 2) w1 W) (hz : w.heap.size + 2 < w1.heap.size) :
    DsEnd w (.returned (.tuple #[.agg #[.float .f32 a0, .float .f32 a1], .agg #[.float .f32 b0, .float .f32 b1], .float .f32 x, .float .f32 y])) ((((W.setCell ⟨w.heap.size, 0, none⟩ u0).setCell ⟨w.heap.size, 1, none⟩ u1).setCell ⟨w.heap.size + 1, 0, none⟩ u2).setCell ⟨w.heap.size + 1, 1, none⟩ u3).drew := by
  obtain ⟨_, _, _, _, _, _, he, h1', h2', hb'⟩ := ds_end (x := x) (y := y) (u0 := u0) (u1 := u1) (u2 := u2) (u3 := u3) h1 h2 hb hk hz
  exact ⟨_, _, _, _, _, _, he, h1', h2', bl_drew hb'⟩
set_option maxRecDepth 100000 in
set_option maxHeartbeats 2000000 in
theorem drawSpans_any (A : Option Addr) (len cap : Nat) (w : World) (hlen : len ≤ maxLen) (hrow : RowOk w.heap.size w A len) :
    Calls Try.prog 25 #[.slice A len cap] w (DsEnd w) := by
  go_enter Try.func25, Try.ntmps25
  go_wp2_with (first | (go_at_call 52; (with_reducible refine (l01New_at (w.heap.size + 2) A len cap _ (by simp) hlen (hrow.more (by repeat (first | exact Below.refl _ _ | assumption | refine bl_drewN ?_ _ | refine bl_drew ?_ | refine bl_alloc ?_ _ | refine bl_set ?_ (by first | (simp; done) | (simp; omega) | omega | (simp [World.setCell]; done) | (simp [World.setCell]; omega)) _ | refine bl_call ?_ (by assumption))) (by omega))).mono ?_); rintro e w1 ⟨rfl, hc1, hb1⟩; have hz1 := hc1.lt; have P1 : Blk w1 w.heap.size 26 #[.float .f32 0, .float .f32 0] := Blk.below ((Blk.new w _ _).alloc _) hb1 (by omega); have Q1 : Blk w1 (w.heap.size + 1) 26 #[.float .f32 0, .float .f32 0] := Blk.below (Blk.new_at (w.alloc _) _ _ (by simp)) hb1 (by omega)) | (go_at_call 56; (with_reducible refine (l07Span_any _ _ (CurOk.below hc2 (by repeat (first | exact Below.refl _ _ | assumption | refine bl_drewN ?_ _ | refine bl_drew ?_ | refine bl_alloc ?_ _ | refine bl_set ?_ (by first | (simp; done) | (simp; omega) | omega | (simp [World.setCell]; done) | (simp [World.setCell]; omega)) _ | refine bl_call ?_ (by assumption))))).mono ?_); rintro e w3 ⟨b0, b1, rfl, hg3, hc3, hk3⟩; have HG3 := Lib.hid hg3; clear hg3; have hz3 := hc3.lt; have hs3 := hk3.size; (try simp at hs3); have P3 := P2.alloc (.cells #[.float .f32 a0, .float .f32 a1] 26) |>.kept hk3 (by omega); have Q3 := Q2.alloc (.cells #[.float .f32 a0, .float .f32 a1] 26) |>.kept hk3 (by omega); have A3 : Blk w3 w2.heap.size 26 #[.float .f32 a0, .float .f32 a1] := Blk.kept (Blk.new w2 _ _) hk3 (by omega); have hl3 : w2.heap.size < w3.heap.size := (by omega); have hn3 : ¬ w2.heap.size = w3.heap.size := (by omega); have u0 := A3.cell 0; have u1 := A3.cell 1; simp only [List.getElem?_toArray, List.getElem?_cons_zero, List.getElem?_cons_succ] at u0 u1) | (go_at_call 56; (with_reducible refine (l07Span_any _ _ hc1).mono ?_); rintro e w2 ⟨a0, a1, rfl, hg2, hc2, hk2⟩; have HG2 := Lib.hid hg2; clear hg2; have hz2 := hc2.lt; have hs2 := hk2.size; (try simp at hs2); have P2 := P1.kept hk2 (by omega); have Q2 := Q1.kept hk2 (by omega)) | (go_at_call 57; (with_reducible refine (l01Below_i _ _ 4 _ (CurOk.below hc3 (by repeat (first | exact Below.refl _ _ | assumption | refine bl_drewN ?_ _ | refine bl_drew ?_ | refine bl_alloc ?_ _ | refine bl_set ?_ (by first | (simp; done) | (simp; omega) | omega | (simp [World.setCell]; done) | (simp [World.setCell]; omega)) _ | refine bl_call ?_ (by assumption)))) (by decide) (by decide) (by decide)).mono ?_); rintro e w4 ⟨k4, rfl, hk40, hc4, hk4⟩; have hz4 := hc4.lt; have hs4 := hk4.size; (try simp at hs4); have P4 := P3.alloc (.cells #[.float .f32 b0, .float .f32 b1] 26) |>.kept hk4 (by omega); have Q4 := Q3.alloc (.cells #[.float .f32 b0, .float .f32 b1] 26) |>.kept hk4 (by omega); have A4 := A3.alloc (.cells #[.float .f32 b0, .float .f32 b1] 26) |>.kept hk4 (by omega); have B4 : Blk w4 w3.heap.size 26 #[.float .f32 b0, .float .f32 b1] := Blk.kept (Blk.new w3 _ _) hk4 (by omega); have hl4 : w2.heap.size < w4.heap.size := (by omega); have hn4 : ¬ w2.heap.size = w4.heap.size := (by omega); have hl5 : w3.heap.size < w4.heap.size := (by omega); have hn5 : ¬ w3.heap.size = w4.heap.size := (by omega); have hl6 : w.heap.size + 1 < w4.heap.size := (by omega); have hl7 : w.heap.size < w4.heap.size := (by omega); have hn6 : ¬ w.heap.size + 1 = w4.heap.size := (by omega); have hn7 : ¬ w.heap.size = w4.heap.size := (by omega); have u0 := A4.cell 0; have u1 := A4.cell 1; have v0 := B4.cell 0; have v1 := B4.cell 1; have p0 := P4.cell 0; have p1 := P4.cell 1; have q0 := Q4.cell 0; have q1 := Q4.cell 1; have pf0 := P4.frozen 0; have pf1 := P4.frozen 1; have qf0 := Q4.frozen 0; have qf1 := Q4.frozen 1; simp only [List.getElem?_toArray, List.getElem?_cons_zero, List.getElem?_cons_succ] at u0 u1 v0 v1 p0 p1 q0 q1) | (go_at_call 58; (with_reducible refine (meanOf_any _ _ _ _ (by decide) (frow2 _ _ _ _ (by rfl))).mono ?_); rintro e w5 ⟨xm, km, rfl, n5, rfl⟩))
  all_goals
    go_region_with (fail)
  all_goals
    go_wp2
    go_simp
    first
      | (obtain ⟨c00, c01, c10, c11⟩ := ds_cells (g := w.heap.size) (W := (w4.alloc (.cells #[.float .f32 a0, .float .f32 a1] 24)).drewN (n5 + 1)) (P4.alloc _) (Q4.alloc _) (.float .f32 a0) (.float .f32 a1) (.float .f32 b0) (.float .f32 b1); first | (refine bodyPost_ret (v := .tuple #[.agg #[.float .f32 a0, .float .f32 a1], .agg #[.float .f32 b0, .float .f32 b1], .float .f32 xm, .float .f32 b1]) ?hh rfl ?ee; (case hh => (simp (maxDischargeDepth := 6) [results, Try.results25, go_sem, c00, c01, c10, c11])); (case ee => (exact ds_end HG2.out HG3.out hb1 (by repeat (first | exact Kept.refl _ _ | assumption | refine kp_drewN ?_ _ | refine kp_alloc ?_ _ | refine kp_set ?_ _ _ | refine kp_bl ?_ (by assumption) | refine kp_call ?_ (by assumption) | refine kp_drew ?_)) hz1))) | (refine bodyPost_ret (v := .tuple #[.agg #[.float .f32 a0, .float .f32 a1], .agg #[.float .f32 b0, .float .f32 b1], .float .f32 a0, .float .f32 b1]) ?hh rfl ?ee; (case hh => (simp (maxDischargeDepth := 6) [results, Try.results25, go_sem, c00, c01, c10, c11])); (case ee => (exact ds_end HG2.out HG3.out hb1 (by repeat (first | exact Kept.refl _ _ | assumption | refine kp_drewN ?_ _ | refine kp_alloc ?_ _ | refine kp_set ?_ _ _ | refine kp_bl ?_ (by assumption) | refine kp_call ?_ (by assumption) | refine kp_drew ?_)) hz1))))
      | (obtain ⟨c00, c01, c10, c11⟩ := ds_cells (g := w.heap.size) (W := w4) P4 Q4 (.float .f32 a0) (.float .f32 a1) (.float .f32 b0) (.float .f32 b1); first | (refine bodyPost_ret (v := .tuple #[.agg #[.float .f32 a0, .float .f32 a1], .agg #[.float .f32 b0, .float .f32 b1], .float .f32 a1, .float .f32 b1]) ?hh rfl ?ee; (case hh => (simp (maxDischargeDepth := 6) [results, Try.results25, go_sem, c00, c01, c10, c11])); (case ee => (exact ds_end' HG2.out HG3.out hb1 (by repeat (first | exact Kept.refl _ _ | assumption | refine kp_drewN ?_ _ | refine kp_alloc ?_ _ | refine kp_set ?_ _ _ | refine kp_bl ?_ (by assumption) | refine kp_call ?_ (by assumption) | refine kp_drew ?_)) hz1))) | (refine bodyPost_ret (v := .tuple #[.agg #[.float .f32 a0, .float .f32 a1], .agg #[.float .f32 b0, .float .f32 b1], .float .f32 a0, .float .f32 b0]) ?hh rfl ?ee; (case hh => (simp (maxDischargeDepth := 6) [results, Try.results25, go_sem, c00, c01, c10, c11])); (case ee => (exact ds_end' HG2.out HG3.out hb1 (by repeat (first | exact Kept.refl _ _ | assumption | refine kp_drewN ?_ _ | refine kp_alloc ?_ _ | refine kp_set ?_ _ _ | refine kp_bl ?_ (by assumption) | refine kp_call ?_ (by assumption) | refine kp_drew ?_)) hz1))) | (refine bodyPost_ret (v := .tuple #[.agg #[.float .f32 a0, .float .f32 a1], .agg #[.float .f32 b0, .float .f32 b1], .float .f32 a0, .float .f32 b1]) ?hh rfl ?ee; (case hh => (simp (maxDischargeDepth := 6) [results, Try.results25, go_sem, c00, c01, c10, c11])); (case ee => (exact ds_end' HG2.out HG3.out hb1 (by repeat (first | exact Kept.refl _ _ | assumption | refine kp_drewN ?_ _ | refine kp_alloc ?_ _ | refine kp_set ?_ _ _ | refine kp_bl ?_ (by assumption) | refine kp_call ?_ (by assumption) | refine kp_drew ?_)) hz1))))
end Go.Proofs.Ytldcciipicnooaa
