/- The walks of sums, products and negatives of spans. -/
import Derived.Test.YtldcciipicnooaaCont
import Derived.Deep.RegionWith
import Derived.Deep.RegionHeld3
namespace Go.Proofs.Ytldcciipicnooaa
open Go.RowKit
attribute [local go_sem] run_neg_float run_store_float run_store_complex

theorem run_wd (P : Program) (w : World) (src dst : TypeId) (hs : (P.underlying src).isSome = true) (hd : P.underlying dst = some (.float .f64)) (b : Nat) (hb : ru FloatKind.f32.format b < FloatKind.f32.format.infRung) :
    (convert src dst (.float .f32 b)).run P w = .ok (.float .f64 (wd b)) w := by
  obtain ⟨u, hs'⟩ := Option.isSome_iff_exists.1 hs
  have hrun : (convert src dst (.float .f32 b)).run P w = (Conv.floatToFloat .f32 b .f64).run P w := by
    cases u <;> simp [convert, run_underlying hs', run_underlying hd]
  rw [hrun]
  obtain ⟨m, e, hr, _⟩ := read_fin FloatKind.f32.format hb
  have hi := widen_no_inf b _ m e hr
  have hd' : FloatKind.f32.decode b = .number (sg FloatKind.f32.format b) m e := hr
  have hi' : (FloatKind.f64.decode (FloatKind.f64.encode (.number (sg FloatKind.f32.format b) m e))).isInfinity = false := hi
  have hw : wd b = FloatKind.f64.encode (.number (sg FloatKind.f32.format b) m e) := by unfold wd; rw [hr]; rfl
  rw [hw]
  simp [Conv.floatToFloat, hd', hi']
theorem run_fdet (P : Program) (w : World) (op : BinOp) (hop : isArith op = true) (t : TypeId) (k : FloatKind) (x y r : Nat) (h : floatBits op k x y = some r) :
    (binOp op t (.float k x) (.float k y)).run P w = .ok (.float k r) w := by
  have h1 : (Op.floatArith op k x y).run P w = .ok (.float k r) w := by
    unfold floatBits at h
    cases op <;> simp only at h <;> first | (cases h; done) | skip
    all_goals simp [Op.floatArith, h]
  rw [← h1]
  cases op <;> simp only [isArith] at hop <;> first | (cases hop; done) | simp [binOp]
theorem sum_word {x y : Nat} (hx : ru FloatKind.f64.format x < FloatKind.f64.format.infRung) (hy : ru FloatKind.f64.format y < FloatKind.f64.format.infRung) : ∃ r, floatBits .add .f64 x y = some r ∧ SumW x y r := by
  obtain ⟨s, m, p, e, _, _⟩ := sum_fin .f64 hx hy
  exact ⟨_, e, by unfold SumW; rw [floatBits_cw, e]; exact cw_number .f64 s m p⟩

/-- A span that holds whatever is rounded from a number between lo and hi. -/
def Has (s0 s1 : Nat) (lo hi : Rat) : Prop := ∀ v u, Rounds u v → lo ≤ u → u ≤ hi → holdsF s0 s1 v = true
theorem rd_val {p s : Nat} (h : RdR p s) (fp : ru FloatKind.f64.format p < FloatKind.f64.format.infRung) : key .f64 (wd s) ≤ key .f64 p := by
  have h2 := (wd_fin h.1).2
  have h3 := h.2.1
  refine Int.not_lt.1 fun h4 => ?_
  have := (key_val_lt .f64 p (wd s)).2 h4
  rw [h2] at this
  exact absurd h3 (Rat.not_le.2 this)
theorem ru_val {p s : Nat} (h : RuR p s) (fp : ru FloatKind.f64.format p < FloatKind.f64.format.infRung) : key .f64 p ≤ key .f64 (wd s) := by
  have h2 := (wd_fin h.1).2
  have h3 := h.2.1
  refine Int.not_lt.1 fun h4 => ?_
  have := (key_val_lt .f64 (wd s) p).2 h4
  rw [h2] at this
  exact absurd h3 (Rat.not_le.2 this)
theorem spOk_of {p q s0 s1 : Nat} (fp : ru FloatKind.f64.format p < FloatKind.f64.format.infRung) (fq : ru FloatKind.f64.format q < FloatKind.f64.format.infRung) (h0 : RdR p s0) (h1 : RuR q s1) (hpq : key .f64 p ≤ key .f64 q) : spOk s0 s1 = true := by
  have a := rd_val h0 fp
  have b := ru_val h1 fq
  rw [spOk_key h0.1 h1.1]
  refine decide_eq_true (Int.not_lt.1 fun h4 => ?_)
  have := (wd_key h1.1 h0.1).2 h4
  omega
theorem has_of {p q s0 s1 : Nat} {lo hi : Rat} (hp : Rounds lo p) (hq : Rounds hi q) (hlh : lo ≤ hi) (h0 : RdR p s0) (h1 : RuR q s1) : spOk s0 s1 = true ∧ Has s0 s1 lo hi := by
  have fp := hp.small.fin
  have fq := hq.small.fin
  have a := rd_val h0 fp
  have b := ru_val h1 fq
  have hok := spOk_of fp fq h0 h1 (hp.mono hq hlh)
  refine ⟨hok, fun v u hu h2 h3 => ?_⟩
  have m1 := hp.mono hu h2
  have m2 := hu.mono hq h3
  rw [holds_key h0.1 h1.1 (Nat.le_of_lt hu.small.fin)]
  rw [spOk_key h0.1 h1.1] at hok
  rw [hok]
  simp
  omega
def AdEnd (a0 a1 b0 b1 : Nat) (w : World) (en : Ending) (w' : World) : Prop := ∃ s0 s1, en = .returned (.tuple #[.agg #[.float .f32 s0, .float .f32 s1], .bool true]) ∧ Has s0 s1 (val .f32 a0 + val .f32 b0) (val .f32 a1 + val .f32 b1) ∧ Below w.heap.size w w'
theorem bound31 {a b : Nat} (ha : Mild a) (hb : Mild b) : -vOf 1 31 ≤ val .f64 (wd a) + val .f64 (wd b) ∧ val .f64 (wd a) + val .f64 (wd b) ≤ vOf 1 31 := by
  obtain ⟨_, a1, a2⟩ := wd_mild ha
  obtain ⟨_, b1, b2⟩ := wd_mild hb
  have := pw_twice 30
  rw [show ((30 : Nat) : Int) = 30 by rfl, show ((30 + 1 : Nat) : Int) = 31 by rfl] at this
  constructor <;> grind

theorem Blk.drew' {w : World} {g : Nat} {t : TypeId} {cs : Array Value} (h : Blk w g t cs) : Blk w.drew g t cs := h
theorem keepB {w W : World} {a0 a1 b0 b1 : Nat} (h0 : Blk W w.heap.size 26 #[.float .f32 a0, .float .f32 a1]) (h1 : Blk W (w.heap.size + 1) 26 #[.float .f32 b0, .float .f32 b1]) (hb : Below w.heap.size w W) (hs : w.heap.size + 1 + 1 < W.heap.size) :
    (Below w.heap.size w W ∧ w.heap.size + 1 + 1 < W.heap.size ∧ W.cell? ⟨w.heap.size, 0, none⟩ = some (.float .f32 a0) ∧ W.cell? ⟨w.heap.size, 1, none⟩ = some (.float .f32 a1) ∧ W.cell? ⟨w.heap.size + 1, 0, none⟩ = some (.float .f32 b0) ∧ W.cell? ⟨w.heap.size + 1, 1, none⟩ = some (.float .f32 b1)) :=
  ⟨hb, hs, h0.cell 0, h0.cell 1, h1.cell 0, h1.cell 1⟩
set_option maxRecDepth 100000 in
set_option maxHeartbeats 8000000 in
theorem addSpans_any (a0 a1 b0 b1 : Nat) (w : World) (ha : SpG a0 a1) (hb : SpG b0 b1) :
    Calls Try.prog 30 #[.agg #[.float .f32 a0, .float .f32 a1], .agg #[.float .f32 b0, .float .f32 b1]] w (AdEnd a0 a1 b0 b1 w) := by
  have fa0 := ha.1.fin
  have fa1 := ha.2.1.fin
  have fb0 := hb.1.fin
  have fb1 := hb.2.1.fin
  obtain ⟨p, hp1, hp2⟩ := sum_word (wd_fin fa0).1 (wd_fin fb0).1
  obtain ⟨q, hq1, hq2⟩ := sum_word (wd_fin fa1).1 (wd_fin fb1).1
  have HP : Hid (Rounds (val .f32 a0 + val .f32 b0) p) := Lib.hid (by have h := bound31 ha.1 hb.1; rw [← (wd_fin fa0).2, ← (wd_fin fb0).2]; exact sum_rounds (k := 31) (by omega) (wd_fin fa0).1 (wd_fin fb0).1 h.1 h.2 hp2)
  have HQ : Hid (Rounds (val .f32 a1 + val .f32 b1) q) := Lib.hid (by have h := bound31 ha.2.1 hb.2.1; rw [← (wd_fin fa1).2, ← (wd_fin fb1).2]; exact sum_rounds (k := 31) (by omega) (wd_fin fa1).1 (wd_fin fb1).1 h.1 h.2 hq2)
  have HLH : Hid (val .f32 a0 + val .f32 b0 ≤ val .f32 a1 + val .f32 b1) := Lib.hid (by have h1 := val_le_key (k := .f32) ha.2.2; have h2 := val_le_key (k := .f32) hb.2.2; grind)
  have OA := Lib.hid (spg_ok ha)
  have OB := Lib.hid (spg_ok hb)
  have e1 : ∀ W, (convert 24 39 (.float .f32 a0)).run Try.prog W = .ok (.float .f64 (wd a0)) W := fun W => run_wd _ W _ _ rfl rfl a0 fa0
  have e2 : ∀ W, (convert 24 39 (.float .f32 a1)).run Try.prog W = .ok (.float .f64 (wd a1)) W := fun W => run_wd _ W _ _ rfl rfl a1 fa1
  have e3 : ∀ W, (convert 24 39 (.float .f32 b0)).run Try.prog W = .ok (.float .f64 (wd b0)) W := fun W => run_wd _ W _ _ rfl rfl b0 fb0
  have e4 : ∀ W, (convert 24 39 (.float .f32 b1)).run Try.prog W = .ok (.float .f64 (wd b1)) W := fun W => run_wd _ W _ _ rfl rfl b1 fb1
  have e5 : ∀ W, (binOp .add 39 (.float .f64 (wd a0)) (.float .f64 (wd b0))).run Try.prog W = .ok (.float .f64 p) W := fun W => run_fdet _ W .add rfl _ _ _ _ _ hp1
  have e6 : ∀ W, (binOp .add 39 (.float .f64 (wd a1)) (.float .f64 (wd b1))).run Try.prog W = .ok (.float .f64 q) W := fun W => run_fdet _ W .add rfl _ _ _ _ _ hq1
  clear fa0 fa1 fb0 fb1 hp1 hp2 hq1 hq2 ha hb
  go_enter Try.func30, Try.ntmps30
  go_wp2_with (first | (go_at_call 29; (with_reducible refine (spanOk_ex a0 a1 _).mono ?_); rw [OA.out]; rintro e w9 ⟨rfl, hw9⟩; have hw9x := hw9.symm; clear hw9; subst hw9x) | (go_at_call 29; (with_reducible refine (spanOk_ex b0 b1 _).mono ?_); rw [OB.out]; rintro e w9 ⟨rfl, hw9⟩; have hw9x := hw9.symm; clear hw9; subst hw9x))
  have A0 : Blk ((((w.alloc (.cells #[.float .f32 a0, .float .f32 a1] 26)).alloc (.cells #[.float .f32 b0, .float .f32 b1] 26)).alloc (.cells #[.float .f32 0, .float .f32 0] 26))) w.heap.size 26 #[.float .f32 a0, .float .f32 a1] := ((Blk.new w _ _).alloc _).alloc _
  have A1 : Blk ((((w.alloc (.cells #[.float .f32 a0, .float .f32 a1] 26)).alloc (.cells #[.float .f32 b0, .float .f32 b1] 26)).alloc (.cells #[.float .f32 0, .float .f32 0] 26))) (w.heap.size + 1) 26 #[.float .f32 b0, .float .f32 b1] := (Blk.new_at _ _ _ (by simp)).alloc _
  have HB0 := Lib.hid (And.intro A0 A1)
  clear A0 A1
  go_region_held3 (fun W => (Below w.heap.size w W ∧ w.heap.size + 1 + 1 < W.heap.size ∧ W.cell? ⟨w.heap.size, 0, none⟩ = some (.float .f32 a0) ∧ W.cell? ⟨w.heap.size, 1, none⟩ = some (.float .f32 a1) ∧ W.cell? ⟨w.heap.size + 1, 0, none⟩ = some (.float .f32 b0) ∧ W.cell? ⟨w.heap.size + 1, 1, none⟩ = some (.float .f32 b1))) (exact keepB (by repeat (first | (with_reducible refine Blk.drewN ?_ _) | (with_reducible refine Blk.drew' ?_) | (with_reducible refine Blk.far ?_ (by show ¬ _ = _; simp only []; omega) _) | (with_reducible exact HB0.out.1) | (with_reducible exact HB0.out.2) | (with_reducible refine Blk.alloc ?_ _))) (by repeat (first | (with_reducible refine Blk.drewN ?_ _) | (with_reducible refine Blk.drew' ?_) | (with_reducible refine Blk.far ?_ (by show ¬ _ = _; simp only []; omega) _) | (with_reducible exact HB0.out.1) | (with_reducible exact HB0.out.2) | (with_reducible refine Blk.alloc ?_ _))) (by repeat (first | (with_reducible exact Below.refl _ _) | (with_reducible refine bl_drewN ?_ _) | (with_reducible refine bl_drew ?_) | (with_reducible refine bl_alloc ?_ _) | (with_reducible refine bl_set ?_ (by simp; omega) _))) (by first | simp | (simp; omega) | (simp [World.setCell]))) (first | (go_at_call 23; go_split_ands; (with_reducible refine (roundDownI_any _ _ HP.out.small.mid).mono ?_); rintro e w2 ⟨s0, n2, rfl, _, hs0, rfl⟩; have HS0 := Lib.hid hs0; clear hs0) | (go_at_call 24; go_split_ands; (with_reducible refine (roundUpI_any _ _ HQ.out.small.mid).mono ?_); rintro e w3 ⟨s1, n3, rfl, _, hs1, rfl⟩; have HS1 := Lib.hid hs1; clear hs1; have HH := Lib.hid (has_of HP.out HQ.out HLH.out HS0.out HS1.out)) | (go_at_call 59; go_split_ands; (with_reducible refine (spanned_ex _ _ _).mono ?_); rw [HH.out.1]; simp only [if_true, spanR]; rintro e w4 ⟨rfl, o1, o2, o3, rfl⟩))
  go_wp2
  have R : Blk ((((((w.alloc (.cells #[.float .f32 a0, .float .f32 a1] 26)).alloc (.cells #[.float .f32 b0, .float .f32 b1] 26)).alloc (.cells #[.float .f32 0, .float .f32 0] 26)).alloc (.cells #[.float .f32 a0, .float .f32 a1] 26)).alloc (.cells #[.float .f32 b0, .float .f32 b1] 26)).drewN (1 + n2 + n3)) (w.heap.size + 1 + 1) 26 #[.float .f32 0, .float .f32 0] := (((Blk.new_at _ _ _ (by simp)).alloc _).alloc _)
  have q0 := ((((R.set_ 0 (.float .f32 s0)).set_ 1 (.float .f32 s1)).alloc o1).alloc o2).alloc o3 |>.cell 0
  have q1 := ((((R.set_ 0 (.float .f32 s0)).set_ 1 (.float .f32 s1)).alloc o1).alloc o2).alloc o3 |>.cell 1
  simp at q0 q1
  refine bodyPost_ret (v := .tuple #[.agg #[.float .f32 s0, .float .f32 s1], .bool true]) ?hh rfl ?ee
  case hh => (simp (maxDischargeDepth := 6) [results, Try.results30, go_sem, q0, q1])
  case ee => exact ⟨s0, s1, rfl, HH.out.2, by repeat (first | exact Below.refl _ _ | assumption | refine bl_drewN ?_ _ | refine bl_drew ?_ | refine bl_alloc ?_ _ | refine bl_set ?_ (by first | (simp; done) | (simp; omega) | omega | (simp [World.setCell]; done) | (simp [World.setCell]; omega)) _ | refine bl_call ?_ (by assumption))⟩
end Go.Proofs.Ytldcciipicnooaa
