/- What spans have in common: the program's and the reference's way. -/
import Derived.Test.YtldcciipicnooaaRowS
import Derived.Test.YtldcciipicnooaaCur
import Derived.Deep.RegionWith
import Derived.Deep.DeepCutAuto
namespace Go.Proofs.Ytldcciipicnooaa
open Go.RowKit
attribute [local go_sem] run_store_float run_store_complex

def foldA (s : Nat × Nat) : List (Nat × Nat) → (Nat × Nat) × Bool
  | [] => (s, true)
  | x :: r => match meetF s.1 s.2 x.1 x.2 with
    | (m, true) => foldA m r
    | (_, false) => ((0, 0), false)
theorem meet_self (a b : Nat) : meetF a b a b = if spOk a b then ((a, b), true) else ((0, 0), false) := by
  have h1 : ∀ x, FloatKind.f32.format.order x x = none ∨ FloatKind.f32.format.order x x = some .eq := fun x => by
    rcases cw_cases .f32 x with ⟨_, h⟩ | ⟨_, h⟩
    · exact .inl (order_nan_left .f32 h)
    · exact .inr (order_self h)
  have h2 : gt32 a a = false := by unfold gt32; rcases h1 a with h | h <;> rw [h] <;> rfl
  have h3 : lt32 b b = false := by unfold lt32; rcases h1 b with h | h <;> rw [h] <;> rfl
  unfold meetF
  rw [h2, h3]
  cases h : spOk a b <;> simp [h]

def agreeF (l : List (Nat × Nat)) : (Nat × Nat) × Bool :=
  if l.length ≤ 64 then match l with
    | [] => ((0, 0), false)
    | s :: r => foldA s (s :: r)
  else ((0, 0), false)
theorem foldA_cons (s x : Nat × Nat) (r : List (Nat × Nat)) : foldA s (x :: r) = if (meetF s.1 s.2 x.1 x.2).2 then foldA (meetF s.1 s.2 x.1 x.2).1 r else ((0, 0), false) := by
  rw [foldA]
  split
  · rename_i h; rw [h]; rfl
  · rename_i h; rw [h]; rfl
theorem fold_step {l : List (Nat × Nat)} {k : Nat} (s : Nat × Nat) (h : k < l.length) : foldA s (l.drop k) = if (meetF s.1 s.2 l[k].1 l[k].2).2 then foldA (meetF s.1 s.2 l[k].1 l[k].2).1 (l.drop (k + 1)) else ((0, 0), false) := by
  rw [List.drop_eq_getElem_cons h, foldA_cons]
theorem fold_end {l : List (Nat × Nat)} (s : Nat × Nat) : foldA s (l.drop l.length) = (s, true) := by rw [List.drop_length]; rfl

def AgRel (l : List (Nat × Nat)) (w : World) (i : Value) (wr : World) : Prop :=
  ∃ (k : Nat) (s : Nat × Nat), k + 1 ≤ l.length ∧ i = .int .i64 (k : Int) ∧ Below w.heap.size w wr ∧ Blk wr w.heap.size 26 #[.float .f32 0, .float .f32 0] ∧ Blk wr (w.heap.size + 1 + 1) 26 #[.float .f32 s.1, .float .f32 s.2] ∧ agreeF l = foldA s (l.drop (k + 1))
theorem meet_fail {a b c d : Nat} (h : (meetF a b c d).2 = false) : meetF a b c d = ((0, 0), false) := by
  unfold meetF at h ⊢
  generalize (if gt32 c a then c else a) = u at *
  generalize (if lt32 d b then d else b) = v at *
  split at h
  · cases h
  · rename_i h2; rw [if_neg h2]
theorem zero_cells {W : World} {g : Nat} {a b : Value} (R : Blk W g 26 #[a, b]) (o : Obj) (x y : Value) :
    (((W.setCell ⟨g, 0, none⟩ x).setCell ⟨g, 1, none⟩ y).alloc o).cell? ⟨g, 0, none⟩ = some x ∧ (((W.setCell ⟨g, 0, none⟩ x).setCell ⟨g, 1, none⟩ y).alloc o).cell? ⟨g, 1, none⟩ = some y := by
  have B := ((R.set_ 0 x).set_ 1 y).alloc o
  have q0 := B.cell 0
  have q1 := B.cell 1
  constructor
  · rw [q0]; simp
  · rw [q1]; simp
theorem zero_cells' {W : World} {g : Nat} {a b : Value} (R : Blk W g 26 #[a, b]) (x y : Value) :
    ((W.setCell ⟨g, 0, none⟩ x).setCell ⟨g, 1, none⟩ y).cell? ⟨g, 0, none⟩ = some x ∧ ((W.setCell ⟨g, 0, none⟩ x).setCell ⟨g, 1, none⟩ y).cell? ⟨g, 1, none⟩ = some y := by
  have B := (R.set_ 0 x).set_ 1 y
  have q0 := B.cell 0
  have q1 := B.cell 1
  constructor
  · rw [q0]; simp
  · rw [q1]; simp
set_option maxRecDepth 100000 in
set_option maxHeartbeats 1000000 in
theorem agreeI_any (v : Value) (l : List (Nat × Nat)) (w : World) (hl : l.length ≤ 1048576) (hr : SpanRow w w.heap.size v l) :
    Calls Try.prog 15 #[v] w fun e w' => e = .returned (spanR (agreeF l)) ∧ Below w.heap.size w w' := by
  obtain ⟨A, c, hv⟩ := hr.len
  subst hv
  by_cases hin : 1 ≤ l.length ∧ l.length ≤ 64
  · have hd : (decide ((1 : Int) ≤ l.length) && decide ((l.length : Int) ≤ 64)) = true := by simp; omega
    have HD := Lib.hid hd
    clear hd
    have hlt : 0 < l.length := by omega
    obtain ⟨b, off, rfl, _, hb, hlc, x, y⟩ := hr.cells hlt
    have HR := Lib.hid hr
    clear hr
    rw [Nat.zero_mul, Nat.add_zero] at x y
    have hagree : agreeF l = foldA l[0] (l.drop 0) := by
      unfold agreeF
      rw [if_pos hin.2]
      match l, hlt with
      | s :: r, _ => rfl
    cases hs : spOk l[0].1 l[0].2
    · have HA : Hid (agreeF l = ((0, 0), false)) := Lib.hid (by rw [hagree, fold_step _ hlt, meet_self, hs]; rfl)
      clear hagree
      go_enter Try.func15, Try.ntmps15
      go_wp2_with (first | (go_at_call 50; (with_reducible refine (within_is _ _ _ _ _ HD.out).mono ?_); rintro e w1 ⟨rfl, rfl⟩) | (go_at_call 29; (with_reducible refine (spanOk_ex _ _ _).mono ?_); rintro e w9 ⟨rfl, hw9⟩; have hw9x := hw9.symm; clear hw9; subst hw9x))
      refine bodyPost_ret (v := .tuple #[.agg #[.float .f32 0, .float .f32 0], .bool false]) (by simp [results, Try.results15, go_sem]) rfl ⟨by rw [HA.out]; rfl, ?_⟩
      repeat (first | exact Below.refl _ _ | assumption | refine bl_drewN ?_ _ | refine bl_drew ?_ | refine bl_alloc ?_ _ | refine bl_set ?_ (by first | (simp; done) | (simp; omega) | omega | (simp [World.setCell]; done) | (simp [World.setCell]; omega)) _ | refine bl_call ?_ (by assumption))
    · have HA : Hid (agreeF l = foldA l[0] (l.drop 1)) := Lib.hid (by rw [hagree, fold_step _ hlt, meet_self, hs]; rfl)
      clear hagree
      by_cases hc1 : c = 1
      · subst hc1
        have hl1 : l.length = 1 := by omega
        have HE : Hid (agreeF l = (l[0], true)) := Lib.hid (by rw [HA.out]; have := fold_end (l := l) l[0]; rw [hl1] at this; exact this)
        have hz : ((l.length - 1 : Nat) : Int) ≤ 0 := by omega
        clear hl1
        go_enter Try.func15, Try.ntmps15
        go_wp2_with (first | (go_at_call 50; (with_reducible refine (within_is _ _ _ _ _ HD.out).mono ?_); rintro e w1 ⟨rfl, rfl⟩) | (go_at_call 29; (with_reducible refine (spanOk_ex _ _ _).mono ?_); rintro e w9 ⟨rfl, hw9⟩; have hw9x := hw9.symm; clear hw9; subst hw9x))
        go_loopw [27] (fun i wr => i = .int .i64 0 ∧ wr = ((w.alloc (.cells #[.float .f32 0, .float .f32 0] 26)).alloc (.cells #[.float .f32 l[0].1, .float .f32 l[0].2] 26)).alloc (.cells #[.float .f32 l[0].1, .float .f32 l[0].2] 26)) (fun _ _ => 0)
        case atStart => exact ⟨rfl, rfl⟩
        case round =>
          obtain ⟨rfl, rfl⟩ := hrel
          go_wp2
          refine bodyPost_ret (v := .tuple #[.agg #[.float .f32 l[0].1, .float .f32 l[0].2], .bool true]) (by simp [results, Try.results15, go_sem]) rfl ⟨by rw [HE.out]; rfl, ?_⟩
          repeat (first | exact Below.refl _ _ | assumption | refine bl_drewN ?_ _ | refine bl_drew ?_ | refine bl_alloc ?_ _ | refine bl_set ?_ (by first | (simp; done) | (simp; omega) | omega | (simp [World.setCell]; done) | (simp [World.setCell]; omega)) _ | refine bl_call ?_ (by assumption))
      · go_enter Try.func15, Try.ntmps15
        go_wp2_with (first | (go_at_call 50; (with_reducible refine (within_is _ _ _ _ _ HD.out).mono ?_); rintro e w1 ⟨rfl, rfl⟩) | (go_at_call 29; (with_reducible refine (spanOk_ex _ _ _).mono ?_); rintro e w9 ⟨rfl, hw9⟩; have hw9x := hw9.symm; clear hw9; subst hw9x))
        go_loopw [27] (fun i wr => AgRel l w i wr) (fun i _ => l.length - (intOf i).toNat)
        case atStart => exact ⟨0, l[0], hin.1, rfl, by repeat (first | exact Below.refl _ _ | assumption | refine bl_drewN ?_ _ | refine bl_drew ?_ | refine bl_alloc ?_ _ | refine bl_set ?_ (by first | (simp; done) | (simp; omega) | omega | (simp [World.setCell]; done) | (simp [World.setCell]; omega)) _ | refine bl_call ?_ (by assumption)), ((Blk.new w _ _).alloc _).alloc _, Blk.new_at _ _ _ (by simp), HA.out⟩
        case round =>
          obtain ⟨k, s, hk, rfl, hB, hb0, hb1, hf⟩ := hrel
          have HB := Lib.hid hB
          have HF := Lib.hid hf
          have H0 := Lib.hid hb0
          have H1 := Lib.hid hb1
          clear hB hf hb0 hb1 x y HA
          by_cases hlt2 : k + 1 < l.length
          · obtain ⟨b', off', hbo, _, _, _, x, y⟩ := HR.out.cells hlt2
            cases hbo
            rw [show off + (k + 1) * 2 = off + 2 + k * 2 by omega] at x y
            have x1 : wr.cell? ⟨b, off + 2 + k * 2, none⟩ = _ := (HB.out.cell (p := ⟨b, off + 2 + k * 2, none⟩) hb).trans x
            have y1 : wr.cell? ⟨b, off + 2 + k * 2 + 1, none⟩ = _ := (HB.out.cell (p := ⟨b, off + 2 + k * 2 + 1, none⟩) hb).trans y
            have s0 := H1.out.cell 0
            have s1 := H1.out.cell 1
            simp only [List.getElem?_toArray, List.getElem?_cons_zero, List.getElem?_cons_succ] at s0 s1
            clear x y
            have hlk : (k : Int) < ((l.length - 1 : Nat) : Int) := by omega
            have hz1 := H1.out.lt
            have hz0 := H0.out.lt
            have hn1 : ¬ w.heap.size + 1 + 1 = wr.heap.size := by omega
            go_wp2_with (go_at_call 26; (with_reducible refine (meet_any _ _ _ _ _).mono ?_); rintro e w1 ⟨rfl, hbb⟩; simp only [spanR]; generalize hm : meetF s.1 s.2 l[k + 1].1 l[k + 1].2 = m; have HM := Lib.hid hm; clear hm; have Z0 := Lib.hid ((H0.out.alloc (.cells #[.float .f32 l[k + 1].1, .float .f32 l[k + 1].2] 26)).below hbb (by simp; omega)); have Z1 := Lib.hid ((H1.out.alloc (.cells #[.float .f32 l[k + 1].1, .float .f32 l[k + 1].2] 26)).below hbb (by simp; omega)); have hs1 := hbb.size; simp at hs1; have hn2 : ¬ w.heap.size + 1 + 1 = w1.heap.size := (by omega); have hn3 : ¬ w.heap.size = w1.heap.size := (by omega); have hl2 : w.heap.size + 1 + 1 < w1.heap.size := (by omega); have hl3 : w.heap.size < w1.heap.size := (by omega); have r0 := Z0.out.cell 0; have r1 := Z0.out.cell 1; have r2 := Z0.out.frozen 0; have r3 := Z0.out.frozen 1; have t0 := Z1.out.cell 0; have t1 := Z1.out.cell 1; have t2 := Z1.out.frozen 0; have t3 := Z1.out.frozen 1; simp only [List.getElem?_toArray, List.getElem?_cons_zero, List.getElem?_cons_succ] at r0 r1 t0 t1)
            · obtain ⟨c0, c1⟩ := zero_cells Z0.out (.cells #[.float .f32 m.1.1, .float .f32 m.1.2] 26) (.float .f32 0) (.float .f32 0)
              have hm2 : m.2 = false := by first | assumption | (have h9 : (!m.2) = true := by assumption
                                                                 simpa using h9)
              have hfail : agreeF l = ((0, 0), false) := by
                have e := HM.out
                rw [HF.out, fold_step _ hlt2, e, hm2]; rfl
              refine bodyPost_ret (v := .tuple #[.agg #[.float .f32 0, .float .f32 0], .bool false]) (by simp (maxDischargeDepth := 6) [results, Try.results15, go_sem, c0, c1]) rfl ⟨by rw [hfail]; rfl, ?_⟩
              have hB := HB.out
              repeat (first | exact Below.refl _ _ | assumption | refine bl_drewN ?_ _ | refine bl_drew ?_ | refine bl_alloc ?_ _ | refine bl_set ?_ (by first | (simp; done) | (simp; omega) | omega | (simp [World.setCell]; done) | (simp [World.setCell]; omega)) _ | refine bl_call ?_ (by assumption))
            · have hm2 : m.2 = true := by first | assumption | (have h9 : (!m.2) = false := by assumption
                                                                simpa using h9)
              refine ⟨⟨k + 1, m.1, by omega, ?_, ?_, ?_, ?_, ?_⟩, ?_⟩
              · exact congrArg (Value.int .i64) (by omega)
              · have hB := HB.out
                repeat (first | exact Below.refl _ _ | assumption | refine bl_drewN ?_ _ | refine bl_drew ?_ | refine bl_alloc ?_ _ | refine bl_set ?_ (by first | (simp; done) | (simp; omega) | omega | (simp [World.setCell]; done) | (simp [World.setCell]; omega)) _ | refine bl_call ?_ (by assumption))
              · exact ((Z0.out.far (p := ⟨w.heap.size + 1 + 1, 0, none⟩) (by simp; omega) _).far (p := ⟨w.heap.size + 1 + 1, 1, none⟩) (by simp; omega) _).alloc _
              · exact ((Z1.out.set_ 0 _).set_ 1 _).alloc _
              · have e := HM.out
                rw [HF.out, fold_step _ hlt2, e, hm2]; rfl
              · show l.length - ((k : Int) + 1).toNat < l.length - (k : Int).toNat
                omega
          · have hlk : ¬ (k : Int) < ((l.length - 1 : Nat) : Int) := by omega
            have hfin : agreeF l = (s, true) := by
              rw [HF.out, show k + 1 = l.length by omega]
              exact fold_end s
            have HE := Lib.hid hfin
            have s0 := H1.out.cell 0
            have s1 := H1.out.cell 1
            have z0 := H0.out.cell 0
            have z1 := H0.out.cell 1
            have z2 := H0.out.frozen 0
            have z3 := H0.out.frozen 1
            simp only [List.getElem?_toArray, List.getElem?_cons_zero, List.getElem?_cons_succ] at s0 s1 z0 z1
            clear hfin
            go_wp2
            obtain ⟨c0, c1⟩ := zero_cells' H0.out (.float .f32 s.1) (.float .f32 s.2)
            refine bodyPost_ret (v := .tuple #[.agg #[.float .f32 s.1, .float .f32 s.2], .bool true]) (by simp (maxDischargeDepth := 6) [results, Try.results15, go_sem, c0, c1]) rfl ⟨by rw [HE.out]; rfl, ?_⟩
            have hB := HB.out
            repeat (first | exact Below.refl _ _ | assumption | refine bl_drewN ?_ _ | refine bl_drew ?_ | refine bl_alloc ?_ _ | refine bl_set ?_ (by first | (simp; done) | (simp; omega) | omega | (simp [World.setCell]; done) | (simp [World.setCell]; omega)) _ | refine bl_call ?_ (by assumption))
  · have hd : (decide ((1 : Int) ≤ l.length) && decide ((l.length : Int) ≤ 64)) = false := by
      rw [Bool.eq_false_iff]; intro h; simp at h; omega
    have HD := Lib.hid hd
    clear hd
    have hE : agreeF l = ((0, 0), false) := by
      unfold agreeF
      split
      · have : l = [] := List.eq_nil_of_length_eq_zero (by omega)
        subst this; rfl
      · rfl
    have HE := Lib.hid hE
    clear hE hin hr
    go_enter Try.func15, Try.ntmps15
    go_wp2_with (first | (go_at_call 50; (with_reducible refine (within_is _ _ _ _ _ HD.out).mono ?_); rintro e w1 ⟨rfl, rfl⟩) | (go_at_call 29; (with_reducible refine (spanOk_ex _ _ _).mono ?_); rintro e w9 ⟨rfl, hw9⟩; have hw9x := hw9.symm; clear hw9; subst hw9x))
    refine bodyPost_ret (v := .tuple #[.agg #[.float .f32 0, .float .f32 0], .bool false]) (by simp [results, Try.results15, go_sem]) rfl ⟨by rw [HE.out]; rfl, ?_⟩
    repeat (first | exact Below.refl _ _ | assumption | refine bl_drewN ?_ _ | refine bl_drew ?_ | refine bl_alloc ?_ _ | refine bl_set ?_ (by first | (simp; done) | (simp; omega) | omega | (simp [World.setCell]; done) | (simp [World.setCell]; omega)) _ | refine bl_call ?_ (by assumption))

def AgRelS (l : List (Nat × Nat)) (w : World) (i : Value) (wr : World) : Prop :=
  ∃ (k : Nat) (s : Nat × Nat), k ≤ l.length ∧ i = .int .i64 (k : Int) ∧ Below w.heap.size w wr ∧ Blk wr w.heap.size 26 #[.float .f32 0, .float .f32 0] ∧ Blk wr (w.heap.size + 1) 26 #[.float .f32 s.1, .float .f32 s.2] ∧ agreeF l = foldA s (l.drop k)
set_option maxRecDepth 100000 in
set_option maxHeartbeats 8000000 in
theorem agreeS_any (v : Value) (l : List (Nat × Nat)) (w : World) (hl : l.length ≤ 1048576) (hr : SpanRow w w.heap.size v l) :
    Calls Try.prog 13 #[v] w fun e w' => e = .returned (spanR (agreeF l)) ∧ Below w.heap.size w w' := by
  obtain ⟨A, c, hv⟩ := hr.len
  subst hv
  by_cases hin : 1 ≤ l.length ∧ l.length ≤ 64
  · have hd : (decide ((1 : Int) ≤ l.length) && decide ((l.length : Int) ≤ 64)) = true := by simp; omega
    have HD := Lib.hid hd
    clear hd
    have hlt : 0 < l.length := by omega
    obtain ⟨b, off, rfl, _, hb, hlc, x, y⟩ := hr.cells hlt
    have HR := Lib.hid hr
    clear hr
    rw [Nat.zero_mul, Nat.add_zero] at x y
    have hagree : agreeF l = foldA l[0] (l.drop 0) := by
      unfold agreeF
      rw [if_pos hin.2]
      match l, hlt with
      | s :: r, _ => rfl
    have HA := Lib.hid hagree
    clear hagree
    go_enter Try.func13, Try.ntmps13
    go_wp2_with (go_at_call 47; (with_reducible refine (l01In_is _ _ _ _ _ HD.out).mono ?_); rintro e w1 ⟨rfl, rfl⟩)
    go_loopw [5] (fun i wr => AgRelS l w i wr) (fun i _ => l.length - (intOf i).toNat)
    case atStart => exact ⟨0, l[0], by omega, rfl, by repeat (first | exact Below.refl _ _ | assumption | refine bl_drewN ?_ _ | refine bl_drew ?_ | refine bl_alloc ?_ _ | refine bl_set ?_ (by first | (simp; done) | (simp; omega) | omega | (simp [World.setCell]; done) | (simp [World.setCell]; omega)) _ | refine bl_call ?_ (by assumption)), (Blk.new w _ _).alloc _, Blk.new_at _ _ _ (by simp), HA.out⟩
    case round =>
      obtain ⟨k, s, hk, rfl, hB, hb0, hb1, hf⟩ := hrel
      have HB := Lib.hid hB
      have HF := Lib.hid hf
      have H0 := Lib.hid hb0
      have H1 := Lib.hid hb1
      clear hB hf hb0 hb1 x y HA
      by_cases hlt2 : k < l.length
      · obtain ⟨b', off', hbo, _, _, _, x, y⟩ := HR.out.cells hlt2
        cases hbo
        have x1 : wr.cell? ⟨b, off + k * 2, none⟩ = _ := (HB.out.cell (p := ⟨b, off + k * 2, none⟩) hb).trans x
        have y1 : wr.cell? ⟨b, off + k * 2 + 1, none⟩ = _ := (HB.out.cell (p := ⟨b, off + k * 2 + 1, none⟩) hb).trans y
        have hgt := H1.out.lt
        have hgt0 := H0.out.lt
        have hbw : b < wr.heap.size := by omega
        have s0 := H1.out.cell 0
        have s1 := H1.out.cell 1
        simp only [List.getElem?_toArray, List.getElem?_cons_zero, List.getElem?_cons_succ] at s0 s1
        clear x y
        go_wp2_with fail
        go_region_with (go_at_call 48; (with_reducible refine (meetS_any _ _ _ _ _).mono ?_); rintro e w1 ⟨rfl, hbb⟩; simp only [spanR]; generalize hm : meetF s.1 s.2 l[k].1 l[k].2 = m; have HM := Lib.hid hm; clear hm; have hw1 : Below wr.heap.size wr w1 := (by refine bl_call ?_ hbb; repeat (first | exact Below.refl _ _ | refine bl_drew ?_ | refine bl_alloc ?_ _)); have Z0 := Lib.hid (H0.out.below hw1 H0.out.lt); have Z1 := Lib.hid (H1.out.below hw1 H1.out.lt); have hs1 := hw1.size; have hn2 : ¬ w.heap.size + 1 = w1.heap.size := (by omega); have hn3 : ¬ w.heap.size = w1.heap.size := (by omega); have hl2 : w.heap.size + 1 < w1.heap.size := (by omega); have hl3 : w.heap.size < w1.heap.size := (by omega); have r0 := Z0.out.cell 0; have r1 := Z0.out.cell 1; have r2 := Z0.out.frozen 0; have r3 := Z0.out.frozen 1; have t0 := Z1.out.cell 0; have t1 := Z1.out.cell 1; have t2 := Z1.out.frozen 0; have t3 := Z1.out.frozen 1; simp only [List.getElem?_toArray, List.getElem?_cons_zero, List.getElem?_cons_succ] at r0 r1 t0 t1; (try (have Z2 := Blk.below (w := (wr.alloc (.cells #[.float .f32 0, .float .f32 0] 26)).drew) (w' := w1) (Blk.new wr 26 #[.float .f32 0, .float .f32 0]) hbb (by simp); have e0 := Z2.cell 0; have e1 := Z2.cell 1; have e2 := Z2.frozen 0; have e3 := Z2.frozen 1; have e4 := Z2.lt; simp only [List.getElem?_toArray, List.getElem?_cons_zero, List.getElem?_cons_succ] at e0 e1)))
        all_goals
          obtain ⟨⟨m0, m1⟩, mb⟩ := m
          cases mb
          · have hfail : agreeF l = ((0, 0), false) := by
              rw [HF.out, fold_step _ hlt2, HM.out]; rfl
            have HE := Lib.hid hfail
            clear hfail
            go_wp2
            obtain ⟨c0, c1⟩ := zero_cells Z0.out (.cells #[.float .f32 m0, .float .f32 m1] 26) (.float .f32 0) (.float .f32 0)
            obtain ⟨d0, d1⟩ := zero_cells' ((Z0.out.far (p := ⟨wr.heap.size, 0, none⟩) (by simp; omega) (.float .f32 m0)).far (p := ⟨wr.heap.size, 1, none⟩) (by simp; omega) (.float .f32 m1)) (.float .f32 0) (.float .f32 0)
            refine bodyPost_ret (v := .tuple #[.agg #[.float .f32 0, .float .f32 0], .bool false]) (by simp (maxDischargeDepth := 6) [results, Try.results13, go_sem, c0, c1, d0, d1]) rfl ⟨by rw [HE.out]; rfl, ?_⟩
            have hB : Below w.heap.size w w1 := bl_call HB.out hw1
            repeat (first | exact Below.refl _ _ | assumption | refine bl_drewN ?_ _ | refine bl_drew ?_ | refine bl_alloc ?_ _ | refine bl_set ?_ (by first | (simp; done) | (simp; omega) | omega | (simp [World.setCell]; done) | (simp [World.setCell]; omega)) _ | refine bl_call ?_ (by assumption))
          · have hnext : agreeF l = foldA (m0, m1) (l.drop (k + 1)) := by
              rw [HF.out, fold_step _ hlt2, HM.out]; rfl
            have HE := Lib.hid hnext
            clear hnext
            go_wp2
            refine ⟨⟨k + 1, (m0, m1), by omega, ?_, ?_, ?_, ?_, HE.out⟩, ?_⟩
            · exact congrArg (Value.int .i64) (by omega)
            · have hB : Below w.heap.size w w1 := bl_call HB.out hw1
              repeat (first | exact Below.refl _ _ | assumption | refine bl_drewN ?_ _ | refine bl_drew ?_ | refine bl_alloc ?_ _ | refine bl_set ?_ (by first | (simp; done) | (simp; omega) | omega | (simp [World.setCell]; done) | (simp [World.setCell]; omega)) _ | refine bl_call ?_ (by assumption))
            · first
                | ((with_reducible refine Blk.alloc ?_ _); exact ((Z0.out.far (p := ⟨w.heap.size + 1, 0, none⟩) (by simp) _).far (p := ⟨w.heap.size + 1, 1, none⟩) (by simp) _))
                | exact ((((Z0.out.far (p := ⟨wr.heap.size, 0, none⟩) (by simp; omega) _).far (p := ⟨wr.heap.size, 1, none⟩) (by simp; omega) _).far (p := ⟨w.heap.size + 1, 0, none⟩) (by simp) _).far (p := ⟨w.heap.size + 1, 1, none⟩) (by simp) _)
            · first
                | ((with_reducible refine Blk.alloc ?_ _); exact ((Z1.out.set_ 0 _).set_ 1 _))
                | exact ((((Z1.out.far (p := ⟨wr.heap.size, 0, none⟩) (by simp; omega) _).far (p := ⟨wr.heap.size, 1, none⟩) (by simp; omega) _).set_ 0 _).set_ 1 _)
            · show l.length - ((k : Int) + 1).toNat < l.length - (k : Int).toNat
              omega
      · have hlk : ¬ (k : Int) < (l.length : Int) := by omega
        have hfin : agreeF l = (s, true) := by
          rw [HF.out, show k = l.length by omega]
          exact fold_end s
        have HE := Lib.hid hfin
        have hgt := H1.out.lt
        have s0 := H1.out.cell 0
        have s1 := H1.out.cell 1
        have z0 := H0.out.cell 0
        have z1 := H0.out.cell 1
        have z2 := H0.out.frozen 0
        have z3 := H0.out.frozen 1
        simp only [List.getElem?_toArray, List.getElem?_cons_zero, List.getElem?_cons_succ] at s0 s1 z0 z1
        clear hfin
        go_wp2
        obtain ⟨c0, c1⟩ := zero_cells' H0.out (.float .f32 s.1) (.float .f32 s.2)
        refine bodyPost_ret (v := .tuple #[.agg #[.float .f32 s.1, .float .f32 s.2], .bool true]) (by simp (maxDischargeDepth := 6) [results, Try.results13, go_sem, c0, c1]) rfl ⟨by rw [HE.out]; rfl, ?_⟩
        have hB := HB.out
        repeat (first | exact Below.refl _ _ | assumption | refine bl_drewN ?_ _ | refine bl_drew ?_ | refine bl_alloc ?_ _ | refine bl_set ?_ (by first | (simp; done) | (simp; omega) | omega | (simp [World.setCell]; done) | (simp [World.setCell]; omega)) _ | refine bl_call ?_ (by assumption))
  · have hd : (decide ((1 : Int) ≤ l.length) && decide ((l.length : Int) ≤ 64)) = false := by
      rw [Bool.eq_false_iff]; intro h; simp at h; omega
    have HD := Lib.hid hd
    clear hd
    have hE : agreeF l = ((0, 0), false) := by
      unfold agreeF
      split
      · have : l = [] := List.eq_nil_of_length_eq_zero (by omega)
        subst this; rfl
      · rfl
    have HE := Lib.hid hE
    clear hE hin hr
    go_enter Try.func13, Try.ntmps13
    go_wp2_with (go_at_call 47; (with_reducible refine (l01In_is _ _ _ _ _ HD.out).mono ?_); rintro e w1 ⟨rfl, rfl⟩)
    refine bodyPost_ret (v := .tuple #[.agg #[.float .f32 0, .float .f32 0], .bool false]) (by simp [results, Try.results13, go_sem]) rfl ⟨by rw [HE.out]; rfl, ?_⟩
    repeat (first | exact Below.refl _ _ | assumption | refine bl_drewN ?_ _ | refine bl_drew ?_ | refine bl_alloc ?_ _ | refine bl_set ?_ (by first | (simp; done) | (simp; omega) | omega | (simp [World.setCell]; done) | (simp [World.setCell]; omega)) _ | refine bl_call ?_ (by assumption))
end Go.Proofs.Ytldcciipicnooaa
