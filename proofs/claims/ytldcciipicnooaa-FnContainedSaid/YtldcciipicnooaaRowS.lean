/- A law's own copies of a slice of spans. -/
import Derived.Test.YtldcciipicnooaaMem
import Derived.Deep.RegionHeld3
namespace Go.Proofs.Ytldcciipicnooaa
open Go.RowKit
attribute [local go_sem] run_store_float run_store_complex

theorem toSpan_ex (a b : Nat) (w : World) :
    Calls Try.prog 49 #[.agg #[.float .f32 a, .float .f32 b]] w fun e w' => e = .returned (.agg #[.float .f32 a, .float .f32 b]) ∧ ∃ o1 o2 o3, w' = ((w.alloc o1).alloc o2).alloc o3 := by
  go_enter Try.func49, Try.ntmps49
  go_wp2
  refine bodyPost_ret (v := .agg #[.float .f32 a, .float .f32 b]) (by simp [results, Try.results49, go_sem]) rfl ⟨rfl, _, _, _, rfl⟩
theorem toSpan_any (a b : Nat) (w : World) :
    Calls Try.prog 49 #[.agg #[.float .f32 a, .float .f32 b]] w fun e w' => e = .returned (.agg #[.float .f32 a, .float .f32 b]) ∧ Below w.heap.size w w' :=
  (toSpan_ex a b w).mono fun e w' ⟨he, o1, o2, o3, hw⟩ => ⟨he, by subst hw; repeat (first | exact Below.refl _ _ | assumption | refine bl_drewN ?_ _ | refine bl_drew ?_ | refine bl_alloc ?_ _ | refine bl_set ?_ (by first | (simp; done) | (simp; omega) | omega | (simp [World.setCell]; done) | (simp [World.setCell]; omega)) _ | refine bl_call ?_ (by assumption))⟩

theorem Try.infoSpan : (Try.prog.info? 26).map (fun i => (i.zero, i.size, i.bytes)) = some (some (.agg #[.float .f32 0, .float .f32 0]), 2, 8) := by kernel_rfl

def Filled (cs : Array Value) (l : List (Nat × Nat)) (k : Nat) : Prop := ∀ i p, i < k → l[i]? = some p → cs[i * 2]? = some (.float .f32 p.1) ∧ cs[i * 2 + 1]? = some (.float .f32 p.2)
set_option maxHeartbeats 1000000 in
theorem toSpanS_any (v : Value) (l : List (Nat × Nat)) (w : World) (hl : l.length ≤ 1048576) (hr : SpanRow w w.heap.size v l) :
    Calls Try.prog 14 #[v] w fun e w' => ∃ v', e = .returned v' ∧ SpanRow w' w'.heap.size v' l ∧ Below w.heap.size w w' := by
  obtain ⟨i0, hi, hz0, hz1, hz2⟩ := info_parts Try.infoSpan
  have hmk := fun W => run_make_rowN (P := Try.prog) 29 26 i0 _ Try.underlying29 hi hz0 .i64 .i64 l.length l.length (Nat.le_refl _) (by rw [hz2]; omega) (by omega) W
  rw [hz1] at hmk
  have HI := Lib.hid (And.intro hi (And.intro hz0 (And.intro hz1 hz2)))
  clear hi hz0 hz1 hz2
  obtain ⟨A, c, hv⟩ := hr.len
  subst hv
  have HR := Lib.hid hr
  clear hr
  go_enter Try.func14, Try.ntmps14
  go_wp2
  go_loopw [4] (fun i wr => ∃ (k : Nat) (cs : Array Value), k ≤ l.length ∧ i = .int .i64 k ∧ Below w.heap.size w wr ∧ Blk wr w.heap.size 26 cs ∧ cs.size = l.length * 2 ∧ Filled cs l k) (fun i _ => l.length - (intOf i).toNat)
  case atStart =>
    refine ⟨0, _, Nat.zero_le _, rfl, bl_alloc (Below.refl _ _) _, Blk.new _ _ _, by rw [size_madeCells], fun i p hi => absurd hi (by omega)⟩
  case round =>
    obtain ⟨k, cs, hk, rfl, hB, hblk, hsz, hfill⟩ := hrel
    have HF := Lib.hid hfill
    have HB := Lib.hid hB
    have HK := Lib.hid hblk
    have HSZ := Lib.hid hsz
    clear hfill hB hblk hsz
    by_cases hlt : k < l.length
    · rcases HR.out with ⟨A', c', _, h0⟩ | ⟨b, off, c', hv, hlc, hb, hpos, hcell⟩
      · rw [h0] at hlt; simp at hlt
      · cases hv
        have hp : l[k]? = some l[k] := List.getElem?_eq_getElem hlt
        obtain ⟨x, y⟩ := hcell k _ hp
        have hx : wr.cell? ⟨b, off + k * 2, none⟩ = _ := (HB.out.cell (p := ⟨b, off + k * 2, none⟩) hb).trans x
        have hy : wr.cell? ⟨b, off + k * 2 + 1, none⟩ = _ := (HB.out.cell (p := ⟨b, off + k * 2 + 1, none⟩) hb).trans y
        clear hcell x y hp HR
        go_wp2_with fail
        refine (toSpan_any _ _ _).mono ?_
        rintro e w1 ⟨rfl, hb1⟩
        have hgl := HK.out.lt
        have hk1 := Lib.hid (HK.out.below hb1 hgl)
        have hs := HSZ.out
        obtain ⟨v0, g0⟩ : ∃ v, w1.cell? ⟨w.heap.size, k * 2, none⟩ = some v := ⟨cs[k * 2]'(by omega), by rw [hk1.out.cell]; exact Array.getElem?_eq_getElem _⟩
        obtain ⟨v1, g1⟩ : ∃ v, w1.cell? ⟨w.heap.size, k * 2 + 1, none⟩ = some v := ⟨cs[k * 2 + 1]'(by omega), by rw [hk1.out.cell]; exact Array.getElem?_eq_getElem _⟩
        have f0 := hk1.out.frozen (k * 2)
        have f1 := hk1.out.frozen (k * 2 + 1)
        clear hs hx hy
        go_wp2
        go_roundw
        case rel =>
          have hB1 : Below w.heap.size w w1 := bl_call HB.out hb1
          refine ⟨k + 1, (cs.setIfInBounds (k * 2) (.float .f32 l[k].1)).setIfInBounds (k * 2 + 1) (.float .f32 l[k].2), by omega, by go_num, bl_set (bl_set hB1 (Nat.le_refl _) _) (Nat.le_refl _) _, (hk1.out.set_ _ _).set_ _ _, by simp [HSZ.out], ?_⟩
          intro i p hi hip
          have hs := HSZ.out
          by_cases hik : i = k
          · subst hik
            rw [List.getElem?_eq_getElem hlt] at hip
            cases hip
            constructor
            · rw [Array.getElem?_setIfInBounds_ne (by omega), Array.getElem?_setIfInBounds_self_of_lt (by omega)]
            · rw [Array.getElem?_setIfInBounds_self_of_lt (by simp; omega)]
          · obtain ⟨q1, q2⟩ := HF.out i p (by omega) hip
            constructor
            · rw [Array.getElem?_setIfInBounds_ne (by omega), Array.getElem?_setIfInBounds_ne (by omega)]; exact q1
            · rw [Array.getElem?_setIfInBounds_ne (by omega), Array.getElem?_setIfInBounds_ne (by omega)]; exact q2
        case measure => simp [intOf]; omega
    · go_wp2
      go_ret
      refine ⟨_, rfl, ?_, HB.out⟩
      obtain rfl : k = l.length := by omega
      rcases Nat.eq_zero_or_pos l.length with h0 | h0
      · have := List.eq_nil_of_length_eq_zero h0
        subst this
        exact .inl ⟨_, _, rfl, rfl⟩
      · refine .inr ⟨w.heap.size, 0, _, rfl, Nat.le_refl _, HK.out.lt, h0, fun i p hi => ?_⟩
        obtain ⟨q1, q2⟩ := HF.out i p (by have := (List.getElem?_eq_some_iff.1 hi).1; exact this) hi
        rw [Nat.zero_add]
        exact ⟨(HK.out.cell _).trans q1, (HK.out.cell _).trans q2⟩

theorem SpanRow.cells {w : World} {B k : Nat} {A : Option Addr} {m c : Nat} {l : List (Nat × Nat)} (h : SpanRow w B (.slice A m c) l) (hk : k < l.length) :
    ∃ b off, A = some ⟨b, off, none⟩ ∧ m = l.length ∧ b < B ∧ l.length ≤ c ∧ w.cell? ⟨b, off + k * 2, none⟩ = some (.float .f32 l[k].1) ∧ w.cell? ⟨b, off + k * 2 + 1, none⟩ = some (.float .f32 l[k].2) := by
  rcases h with ⟨A', c', _, h0⟩ | ⟨b, off, c', hv, hlc, hb, hpos, hcell⟩
  · rw [h0] at hk; simp at hk
  · cases hv
    obtain ⟨x, y⟩ := hcell k _ (List.getElem?_eq_getElem hk)
    exact ⟨b, off, rfl, rfl, hb, hlc, x, y⟩

set_option maxHeartbeats 1000000 in
theorem eqSpanS_same (v v' : Value) (l : List (Nat × Nat)) (w : World) (hl : l.length ≤ 1048576) (hr : SpanRow w w.heap.size v l) (hr' : SpanRow w w.heap.size v' l) :
    Calls Try.prog 17 #[v, v'] w fun e w' => e = .returned (.bool true) ∧ Below w.heap.size w w' := by
  obtain ⟨A, c, hv⟩ := hr.len
  obtain ⟨A', c', hv'⟩ := hr'.len
  subst hv; subst hv'
  have HR := Lib.hid hr
  have HR' := Lib.hid hr'
  clear hr hr'
  go_enter Try.func17, Try.ntmps17
  go_wp2
  go_loopw [5] (fun i wr => ∃ (k : Nat), k ≤ l.length ∧ i = .int .i64 k ∧ Below w.heap.size w wr) (fun i _ => l.length - (intOf i).toNat)
  case atStart => exact ⟨0, Nat.zero_le _, rfl, Below.refl _ _⟩
  case round =>
    obtain ⟨k, hk, rfl, hB⟩ := hrel
    have HB := Lib.hid hB
    clear hB
    by_cases hlt : k < l.length
    · obtain ⟨b, off, rfl, _, hb, hlc, x, y⟩ := HR.out.cells hlt
      obtain ⟨b', off', rfl, _, hb', hlc', x', y'⟩ := HR'.out.cells hlt
      have x1 : wr.cell? ⟨b, off + k * 2, none⟩ = _ := (HB.out.cell (p := ⟨b, off + k * 2, none⟩) hb).trans x
      have y1 : wr.cell? ⟨b, off + k * 2 + 1, none⟩ = _ := (HB.out.cell (p := ⟨b, off + k * 2 + 1, none⟩) hb).trans y
      have x2 : wr.cell? ⟨b', off' + k * 2, none⟩ = _ := (HB.out.cell (p := ⟨b', off' + k * 2, none⟩) hb').trans x'
      have y2 : wr.cell? ⟨b', off' + k * 2 + 1, none⟩ = _ := (HB.out.cell (p := ⟨b', off' + k * 2 + 1, none⟩) hb').trans y'
      go_wp2_with fail
      go_region_held3 (fun w' => Below w.heap.size w w' ∧ w'.cell? ⟨b, off + k * 2, none⟩ = some (.float .f32 l[k].1) ∧ w'.cell? ⟨b, off + k * 2 + 1, none⟩ = some (.float .f32 l[k].2) ∧ w'.cell? ⟨b', off' + k * 2, none⟩ = some (.float .f32 l[k].1) ∧ w'.cell? ⟨b', off' + k * 2 + 1, none⟩ = some (.float .f32 l[k].2)) (first | exact ⟨HB.out.drew, x1, y1, x2, y2⟩ | exact ⟨hB1, p1, p2, p3, p4⟩)
        (first | (go_at_call 16; go_split_ands; refine (eqSpan_same _ _ _ _ _ rfl rfl).mono ?_; rintro e w1 ⟨rfl, hb1⟩; have hB1 : Below w.heap.size w w1 := bl_call (by assumption) hb1; have p1 := (hB1.cell (p := ⟨b, off + k * 2, none⟩) hb).trans x; have p2 := (hB1.cell (p := ⟨b, off + k * 2 + 1, none⟩) hb).trans y; have p3 := (hB1.cell (p := ⟨b', off' + k * 2, none⟩) hb').trans x'; have p4 := (hB1.cell (p := ⟨b', off' + k * 2 + 1, none⟩) hb').trans y'))
      go_wp2
      go_roundw
      case rel => exact ⟨k + 1, by omega, by go_num, by assumption⟩
      case measure => simp [intOf]; omega
    · go_wp2
      go_ret
      exact ⟨rfl, HB.out⟩

theorem szSpanS_any (A : Option Addr) (n c : Nat) (w : World) (hn : n ≤ 9223372036854775807) :
    Calls Try.prog 12 #[.slice A n c, .int .i64 1048576] w fun e w' => e = .returned (.int .i64 (if n ≤ 1048576 then 1048576 - (n : Int) else -1)) ∧ w' = w := by
  by_cases h : n ≤ 1048576
  · rw [if_pos h]
    go_enter Try.func12, Try.ntmps12
    go_wp2
    go_ret
    exact ⟨rfl, rfl⟩
  · rw [if_neg h]
    go_enter Try.func12, Try.ntmps12
    go_wp2
    go_ret
    exact ⟨rfl, rfl⟩
end Go.Proofs.Ytldcciipicnooaa
