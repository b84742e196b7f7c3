/- The reference's ParseExpr: what the plain reader reads. No condition. -/
import Derived.Test.YtjgjgjkffoagoaaDoorRzD
import Derived.Test.YtjgjgjkffoagoaaDoorEoS
import Derived.Test.YtjgjgjkffoagoaaDoorRdH
namespace Go.Proofs.YtjgjgjkffoagoaaDoor
open Go.RowKit
attribute [local go_sem] run_store_float run_store_complex
set_option maxRecDepth 100000
set_option maxHeartbeats 4000000
set_option linter.unusedVariables false
set_option linter.unusedSimpArgs false

def PzEnd (w : World) (q : Option (List Nd)) (e : Ending) (w' : World) : Prop :=
  ∃ v, e = .returned (.tuple #[v, .bool q.isSome]) ∧ (q = none → ∃ a c, v = .slice a 0 c) ∧ (∀ l, q = some l → w'.ownsRow (w.heap.size + 1) 43 3 v l.length (l.flatMap ndCells)) ∧ Below w.heap.size w w'
theorem nd_view {base : Nat} {w : World} {v : Value} {l : List Nd} (h : w.ownsRow base 43 3 v l.length (l.flatMap ndCells)) (hl : 1 ≤ l.length) : NView w v l := by
  obtain ⟨g, cap, rfl⟩ := Joins.ownsRow_form h (by omega)
  refine ⟨g, cap, rfl, (h.lt g rfl).2, fun k hk => ?_⟩
  obtain ⟨a, b, c⟩ := flat_get l k hk
  have hc := h.cells rfl
  have e : ∀ j, (⟨g, 0, none⟩ : Addr).add j = ⟨g, j, none⟩ := fun j => by unfold Addr.add; split <;> simp_all
  refine ⟨?_, ?_, ?_⟩
  · rw [← e]; exact hc _ _ a
  · rw [← e]; exact hc _ _ b
  · rw [← e]; exact hc _ _ c
theorem par_long {s : List UInt8} {r : Option St} (h : Long r) : parR s r = none := by
  rcases h with rfl | ⟨p, rfl, hl⟩
  · rfl
  · show (if _ then _ else _) = none
    rw [if_neg (fun h => by have := h.2.2; omega)]
theorem pz_no {w W : World} {q : Option (List Nd)} (h : q = none) (g : Nat) (hb : Below w.heap.size w W) : PzEnd w q (.returned (.tuple #[.slice (some ⟨g, 0, none⟩) 0 0, .bool false])) W := by
  subst h
  exact ⟨_, rfl, fun _ => ⟨_, _, rfl⟩, (fun l hl => by cases hl), hb⟩
theorem parseS_long (s : List UInt8) (hs : 600 < s.length) (w : World) : Calls Tryd.prog 11 #[tx s] w (PzEnd w none) := by
  have c1 : decide ((600 : Int) < (s.length : Int)) = true := decide_eq_true (by omega)
  go_enter Tryd.func11, Tryd.ntmps11
  go_wp2
  exact bodyPost_ret (v := .tuple #[.slice (some ⟨w.heap.size, 0, none⟩) 0 0, .bool false]) (by simp (maxDischargeDepth := 6) [results, Tryd.results11, go_sem]) rfl (pz_no rfl _ (bl_alloc (Below.refl _ _) _))
theorem parseS_any (s : List UInt8) (hs : s.length ≤ 600) (w : World) (F : Nat) (r : Option St) (hp : prs s F (.lev 0) 0 [] = some r) :
    Calls Tryd.prog 11 #[tx s] w (PzEnd w (parR s r)) := by
  have c1 : decide ((600 : Int) < (s.length : Int)) = false := decide_eq_false (by omega)
  have hrz : Rz w s (w.alloc (.cells #[tx s, .int .i64 0, .bool false, .slice none 0 0] 61)) 0 [] false :=
    ⟨.slice none 0 0, Blk.new _ _ _, World.ownsRow_nil _ _ _ _, Nat.zero_le _, bl_alloc (Below.refl _ _) _⟩
  have HRZ := Lib.hid hrz
  have HM := Lib.hid (ihz_all w s (by omega) (F + 1) F (Nat.lt_succ_self F) (.lev 0) 0 [] r hp (show 0 ≤ 3 by omega))
  have HCM := Lib.hid (fun i o (h : r = some (i, o)) => came_all s F (.lev 0) 0 [] i o (by rw [hp, h]) (show 0 ≤ 3 by omega) (Nat.zero_le _))
  clear hrz hp
  go_enter Tryd.func11, Tryd.ntmps11
  go_wp2_with fail
  go_at_call 27
  refine (HM.out _ HRZ.out (Nat.le_refl _) (by decide)).mono ?_
  rintro e w1 ⟨rfl, hr⟩
  obtain ⟨i1, o1, f1, hz, a, b, c, d⟩ := hr.parts
  have HZ := Lib.hid hz
  have hil := hz.le
  clear hr hz
  cases f1
  · obtain ⟨hr, h60⟩ := c rfl
    have HR := Lib.hid hr
    obtain ⟨B, hB⟩ : ∃ B, nextB s i1 = B := ⟨_, rfl⟩
    go_wp2_with fail
    go_at_call 28
    refine (next_good B w _ s (by omega) i1 o1 hB HZ.out).mono ?_
    rintro e w2 ⟨rfl, hr2⟩
    have HZ2 := Lib.hid hr2
    obtain ⟨v, hb, hown, hkl, hbel⟩ := hr2
    have q1 := hb.cell 1
    have q2 := hb.cell 2
    have q3 := hb.cell 3
    have HBE := Lib.hid hbel
    have HOW := Lib.hid hown
    clear hb hown hbel c d
    by_cases hB0 : B = 0
    · subst hB0
      by_cases hpl : skip s i1 < s.length
      · have c2 : decide ((skip s i1 : Int) < (s.length : Int)) = true := decide_eq_true (by omega)
        have hnp : parR s r = none := by rw [HR.out]; show (if _ then _ else _) = none; rw [if_neg (fun h => by have := h.2.1; omega)]
        have HE := Lib.hid (fun o => pz_no (w := w) hnp w2.heap.size (bl_alloc HBE.out o))
        clear hr hnp
        go_wp2
        exact bodyPost_ret (v := .tuple #[.slice (some ⟨w2.heap.size, 0, none⟩) 0 0, .bool false]) (by simp (maxDischargeDepth := 6) [results, Tryd.results11, go_sem]) rfl (HE.out _)
      · have c2 : decide ((skip s i1 : Int) < (s.length : Int)) = false := decide_eq_false (by omega)
        have hpe : skip s i1 = s.length := by omega
        have hnp : parR s r = some o1 := by rw [HR.out]; show (if _ then _ else _) = _; rw [if_pos ⟨hB, hpe, h60⟩]
        have HNP := Lib.hid hnp
        obtain ⟨l, hl, hk, hg⟩ := (HCM.out _ _ HR.out).row
        rw [List.nil_append] at hl
        subst hl
        have hex : IsEx o1 := hk
        have hl1 : 1 ≤ o1.length := ex_ne hex
        have HV := Lib.hid (nd_view HOW.out hl1)
        clear hr hnp hk
        go_wp2_with fail
        go_at_call 29
        refine (exprOkP_any o1 _ _ HV.out ⟨hl1, h60⟩ hg hex).mono ?_
        rintro e w3 ⟨rfl, hb3⟩
        have HZ3 := Lib.hid (HZ2.out.below hb3)
        have HOW3 := Lib.hid (own_below HOW.out hb3)
        have hlt2 := HZ2.out.lt
        have q3' := (hb3.cell (p := ⟨w.heap.size, 3, none⟩) hlt2).trans q3
        have HBE3 := Lib.hid (bl_call HBE.out hb3)
        clear hb3 q1 q2 q3
        have HE : Hid (PzEnd w (parR s r) (.returned (.tuple #[v, .bool true])) w3) := Lib.hid (by rw [HNP.out]; exact ⟨v, rfl, fun h => (by cases h), fun l hl => (by cases hl; exact HOW3.out), HBE3.out⟩)
        go_wp2
        exact bodyPost_ret (v := .tuple #[v, .bool true]) (by simp (maxDischargeDepth := 6) [results, Tryd.results11, go_sem]) rfl HE.out
    · have c3 : ((B : Int) != 0) = true := by rw [bne_iff_ne]; omega
      have hnp : parR s r = none := by rw [HR.out]; show (if _ then _ else _) = none; rw [if_neg (fun h => hB0 (hB.symm.trans h.1))]
      have HE := Lib.hid (fun o => pz_no (w := w) hnp w2.heap.size (bl_alloc HBE.out o))
      clear hr hnp hB0
      go_wp2
      exact bodyPost_ret (v := .tuple #[.slice (some ⟨w2.heap.size, 0, none⟩) 0 0, .bool false]) (by simp (maxDischargeDepth := 6) [results, Tryd.results11, go_sem]) rfl (HE.out _)
  · have hl := par_long (s := s) (d rfl)
    have HL := Lib.hid hl
    go_wp2_with fail
    go_at_call 28
    refine (next_any w _ s (by omega) i1 o1 true HZ.out).mono ?_
    rintro e w2 ⟨rfl, hr2⟩
    obtain ⟨v, hb, hown, hkl, hbel⟩ := hr2
    have q2 := hb.cell 2
    have HBE := Lib.hid hbel
    clear hb hown hbel c d hl
    have HE := Lib.hid (fun o => pz_no (w := w) HL.out w2.heap.size (bl_alloc HBE.out o))
    go_wp2
    exact bodyPost_ret (v := .tuple #[.slice (some ⟨w2.heap.size, 0, none⟩) 0 0, .bool false]) (by simp (maxDischargeDepth := 6) [results, Tryd.results11, go_sem]) rfl (HE.out _)
end Go.Proofs.YtjgjgjkffoagoaaDoor
