/- What a draw of two runs of numbers and a unit is: two rows of numbers in the call's own memory, at most 61 and 6 of them, and any unit. Condition: the bytes drawn from are bytes. -/
import Derived.Test.YtldcciipicnooaaDoorDrawC
namespace Go.Proofs.YtldcciipicnooaaDoor
open Go.RowKit
set_option maxRecDepth 100000
set_option maxHeartbeats 4000000
set_option linter.unusedVariables false
set_option linter.unusedSimpArgs false

/-- The unit's block of a call that boxes it. -/
abbrev unitO (s : ByteArray) (m x : Int) : Obj := .cells #[.string s, .int .i64 m, .int .i64 x] 38
/-- The loop's relation of l10Run. -/
def RnRel (c : Nat) (w : World) (s : ByteArray) (m x : Int) (out n : Value) (wr : World) : Prop :=
  ∃ k j g : Nat, n = .int .i64 k ∧ j + k ≤ 5 ∧ CRow wr out j g ∧ w.heap.size < g ∧ CurOk c wr ∧ Kept c (w.alloc (unitO s m x)) wr
theorem rn_keep {c : Nat} {w W : World} {s : ByteArray} {m x : Int} (hc : c < w.heap.size) (h : Kept c (w.alloc (unitO s m x)) W) :
    W.cell? ⟨w.heap.size, 0, none⟩ = some (.string s) ∧ W.cell? ⟨w.heap.size, 1, none⟩ = some (.int .i64 m) ∧ W.cell? ⟨w.heap.size, 2, none⟩ = some (.int .i64 x) ∧ w.heap.size < W.heap.size := by
  have B := Blk.kept (Blk.new w 38 #[.string s, .int .i64 m, .int .i64 x]) h (by omega)
  exact ⟨B.cell 0, B.cell 1, B.cell 2, B.lt⟩
theorem rn_next {c k j g g' cap : Nat} {w W W' : World} {s : ByteArray} {m x : Int} {l : List (Nat × Nat)} {z : Nat × Nat} {o : Obj} (hc : c < w.heap.size) (hl : l.length = j) (hk : 0 < k) (hjk : j + k ≤ 5) (hg : w.heap.size < g) (hgl : g < W.heap.size) (hcur : CurOk c W) (hkp : Kept c (w.alloc (unitO s m x)) W)
    (hown : W'.ownsRow g 68 1 (.slice (some ⟨g', 0, none⟩) (j + 1) cap) (j + 1) (l.map cxv ++ [cxv z])) (hgr : (W.alloc o).grownBy W' (some g)) (hlies : some g = some g' ∨ g' = W.heap.size + 1) :
    RnRel c w s m x (.slice (some ⟨g', 0, none⟩) (j + 1) cap) (.int .i64 ((k : Int) - 1)) W' ∧ (RowKit.intOf (.int .i64 ((k : Int) - 1))).toNat < (RowKit.intOf (.int .i64 (k : Int))).toNat := by
  have hs : (w.alloc (unitO s m x)).heap.size = w.heap.size + 1 := World.size_alloc w _
  have hs2 : (W.alloc o).heap.size = W.heap.size + 1 := World.size_alloc W _
  refine ⟨⟨k - 1, j + 1, g', by rw [show (((k - 1 : Nat)) : Int) = (k : Int) - 1 by omega], by omega, CRow.app hl hown, ?_, ?_, ?_⟩, by simp only [RowKit.intOf]; omega⟩
  · rcases hlies with h | h
    · have := Option.some.inj h; omega
    · omega
  · exact (hcur.below (bl_alloc (Below.refl _ _) o)).grown hgr (fun k e => by have := Option.some.inj e; omega)
  · exact (kp_alloc hkp o).grown hgr (fun k e => by have := Option.some.inj e; omega)

theorem l10Run_any (c : Nat) (s : ByteArray) (m x : Int) (w : World) (H : CurOk c w) :
    Calls Tryd.prog 43 #[.pointer (some ⟨c, 0, none⟩), .agg #[.string s, .int .i64 m, .int .i64 x]] w fun e w' => ∃ v n g, e = .returned v ∧ CRow w' v n g ∧ n ≤ 5 ∧ w.heap.size < g ∧ CurEnd c w w' := by
  have hc := H.lt
  obtain ⟨i0, hi, hz0, hz1, hz2⟩ := info_parts A_infoC
  go_enter Tryd.func43, Tryd.ntmps43
  go_wp2_with fail
  go_at_call 38
  refine (l01Below_i c _ 6 _ (H.below (by repeat (first | exact Below.refl _ _ | assumption | refine bl_drewN ?_ _ | refine bl_drew ?_ | refine bl_alloc ?_ _ | refine bl_set ?_ (by first | (simp; done) | (simp; omega) | omega | (simp [World.setCell]; done) | (simp [World.setCell]; omega)) _ | refine bl_call ?_ (by assumption)))) (by decide) (by decide) (by decide)).mono ?_
  rintro e w1 ⟨k, rfl, hk, hc1, hk1⟩
  have hs : (w.alloc (unitO s m x)).heap.size = w.heap.size + 1 := World.size_alloc w _
  have hs2 : ((w.alloc (unitO s m x)).alloc (.cells #[] 68)).heap.size = w.heap.size + 2 := by rw [World.size_alloc, hs]
  have hrow0 : CRow ((w.alloc (unitO s m x)).alloc (.cells #[] 68)) (.slice (some ⟨w.heap.size + 1, 0, none⟩) 0 0) 0 (w.heap.size + 1) := ⟨0, [], rfl, rfl, by
    have := World.ownsRow_lit (base := w.heap.size + 1) (w.alloc (unitO s m x)) (e := 68) (size := 1) #[] 0 (by omega) (Nat.zero_le _) rfl
    rw [hs] at this
    exact this⟩
  have hrow1 := hrow0.kept hk1 (by omega)
  have hkp1 : Kept c (w.alloc (unitO s m x)) w1 := (Kept.of (bl_alloc (Below.refl _ _) _)).trans hk1
  have HR1 := Lib.hid hrow1
  have HK1 := Lib.hid hkp1
  have HC1 := Lib.hid hc1
  clear hrow0 hrow1 hkp1 hc1 hk1
  go_wp2
  go_loopw [5, 6] (fun out n wr => RnRel c w s m x out n wr) (fun _ n _ => (RowKit.intOf n).toNat)
  case atStart => exact ⟨k, 0, w.heap.size + 1, rfl, by omega, HR1.out, by omega, HC1.out, HK1.out⟩
  case round =>
    obtain ⟨k, j, g, rfl, hjk, ⟨cap, l, rfl, hl, hown⟩, hg, hcur, hkp⟩ := hrel
    obtain ⟨q0, q1, q2, hz⟩ := rn_keep hc hkp
    have HOWN := Lib.hid hown
    have HCUR := Lib.hid hcur
    have HKP := Lib.hid hkp
    have hgl : g < wr.heap.size := (hown.lt g rfl).2
    clear hown hcur hkp
    by_cases h0 : 0 < k
    · have ck : decide (0 < (k : Int)) = true := decide_eq_true (by omega)
      go_wp2_with fail
      go_at_call 45
      refine (l10Number2_any c s m x _ HCUR.out).mono ?_
      rintro e w2 ⟨za, zb, rfl, hc2, hk2⟩
      have HR2 : Hid (CRow w2 (.slice (some ⟨g, 0, none⟩) j cap) j g) := Lib.hid (CRow.kept ⟨cap, l, rfl, hl, HOWN.out⟩ hk2 (by omega))
      have HC2 := Lib.hid hc2
      have HK2 := Lib.hid (HKP.out.trans hk2)
      have hg2 : g < w2.heap.size := HR2.out.lt
      clear hc2 hk2
      obtain ⟨cap2, l2, hv2, hl2, hown2⟩ := HR2.out
      obtain rfl : cap = cap2 := by simpa using (Value.slice.inj hv2).2.2
      clear hv2
      have HOWN2 := Lib.hid hown2
      clear hown2
      go_wp2_with (first | (at_builtin; refine wpList_append_lies _ rfl _ _ 36 rfl g 68 i0 (.complex .f32 0 0) 1 8 Tryd.underlying36 hi hz0 hz1 hz2 rfl (by decide) _ _ _ rfl (HOWN2.out.alloc _) ⟨w2.heap.size, 0, none⟩ 1 1 [cxv (za, zb)] rfl rfl ?c1 ?c2 (by decide) ?c3 ?c4 ?c5 _ rfl ?_))
      case c1 =>
        intro i u hj
        match i, hj with
        | 0, hj => simp at hj; subst hj; simp [Addr.add]
      case c2 => intro u hu; simp at hu; subst hu; rfl
      case c3 => unfold maxLen; omega
      case c4 => omega
      case c5 => rw [World.size_alloc]; omega
      · intro g' cap' w3 hown' hgrow hlies _
        have HN := Lib.hid (rn_next (x := x) (m := m) (s := s) hc hl2 h0 hjk hg hg2 HC2.out HK2.out hown' hgrow hlies)
        clear hown' hgrow hlies
        go_wp2
        case roundEnd => exact HN.out
    · obtain rfl : k = 0 := by omega
      go_wp2
      go_ret
      exact ⟨_, j, g, rfl, ⟨cap, l, rfl, hl, HOWN.out⟩, by omega, hg, HCUR.out, (Kept.of (bl_alloc (Below.refl _ _) _)).trans HKP.out⟩
end Go.Proofs.YtldcciipicnooaaDoor
