/- The reader of expressions walked: all its functions; the program's ParseExpr. Condition: the table of powers of ten is laid. -/
import Derived.Test.YtjgjgjkffoagoaaDoorRdG
namespace Go.Proofs.YtjgjgjkffoagoaaDoor
open Go.RowKit
attribute [local go_sem] run_store_float run_store_complex
set_option maxRecDepth 100000
set_option maxHeartbeats 2000000
set_option linter.unusedVariables false
set_option linter.unusedSimpArgs false

theorem ihs_all (w0 : World) (htab : Lib.TabIs Tryd.prog w0 "internal/strconv.uint64pow10" .u64 Lib.pow10Tab) (s : List UInt8) (hs : s.length ≤ 1000000) : ∀ F, IHs w0 s F
  | 0 => fun f' hf => absurd hf (Nat.not_lt_zero _)
  | F + 1 => fun f' hf md i out r hp wb w h hlen => by
    have IH : IHs w0 s f' := fun g hg => ihs_all w0 htab s hs F g (by omega)
    cases md with
    | lev n =>
      intro hn
      match n, hn, hp with
      | 0, _, hp => exact level_walk0 w0 s hs f' IH i out r hp wb w h hlen
      | 1, _, hp => exact level_walk1 w0 s hs f' IH i out r hp wb w h hlen
      | 2, _, hp => exact level_walk2 w0 s hs f' IH i out r hp wb w h hlen
      | 3, _, hp => exact level_walk3 w0 s f' IH i out r hp wb w h hlen
      | n + 4, hn, _ => exact absurd hn (by omega)
    | loop n => trivial
    | fac => exact factor_walk w0 htab s hs f' IH i out r hp wb w h hlen
    | word k => exact word_walk w0 s hs f' IH k i out r hp wb w h hlen
/-- What reading a whole text comes to. -/
def parR (s : List UInt8) (r : Option St) : Option (List Nd) := match r with
  | none => none
  | some (i, o) => if nextB s i = 0 ∧ skip s i = s.length ∧ o.length ≤ 60 then some o else none
def ParEnd (w : World) (q : Option (List Nd)) (e : Ending) (w' : World) : Prop :=
  ∃ v, e = .returned (.tuple #[v, .bool q.isSome]) ∧ (q = none → v = .slice none 0 0) ∧ (∀ l, q = some l → w'.ownsRow w.heap.size 43 3 v l.length (l.flatMap ndCells)) ∧ Below w.heap.size w w'
theorem parse_long (s : List UInt8) (hs : 600 < s.length) (w : World) : Calls Tryd.prog 9 #[tx s] w (ParEnd w none) := by
  have c1 : decide ((600 : Int) < (s.length : Int)) = true := decide_eq_true (by omega)
  have HE : ParEnd w none (.returned (.tuple #[.slice none 0 0, .bool false])) w := ⟨_, rfl, fun _ => rfl, fun l h => (by cases h), Below.refl _ _⟩
  go_enter Tryd.func9, Tryd.ntmps9
  go_wp2
  exact bodyPost_ret (v := .tuple #[.slice none 0 0, .bool false]) (by simp (maxDischargeDepth := 6) [results, Tryd.results9, go_sem]) rfl HE
theorem parse_any (s : List UInt8) (hs : s.length ≤ 600) (w : World) (htab : Lib.TabIs Tryd.prog w "internal/strconv.uint64pow10" .u64 Lib.pow10Tab) (F : Nat) (r : Option St) (hp : prs s F (.lev 0) 0 [] = some r) :
    Calls Tryd.prog 9 #[tx s] w (ParEnd w (parR s r)) := by
  have c1 : decide ((600 : Int) < (s.length : Int)) = false := decide_eq_false (by omega)
  have hrd : Rd w (w.alloc (.cells #[tx s, .int .i64 0, .slice none 0 0, .bool false] 55)) s (w.alloc (.cells #[tx s, .int .i64 0, .slice none 0 0, .bool false] 55)) 0 [] false :=
    ⟨.slice none 0 0, Blk.new _ _ _, World.ownsRow_nil _ _ _ _, Nat.zero_le _, bl_alloc (Below.refl _ _) _, Fr.refl _ _⟩
  have HRD := Lib.hid hrd
  have HM := Lib.hid (ihs_all w htab s (by omega) (F + 1) F (Nat.lt_succ_self F) (.lev 0) 0 [] r hp)
  clear hrd hp
  go_enter Tryd.func9, Tryd.ntmps9
  go_wp2_with fail
  go_at_call 24
  refine (HM.out _ _ HRD.out (Nat.zero_le _) (by decide)).mono ?_
  rintro e w1 ⟨rfl, hr⟩
  obtain ⟨i, o, h1, h1p, h1i, h1o⟩ := hr
  have HR := Lib.hid h1
  have HP := Lib.hid h1p
  have hol : o.length ≤ i := by simpa using h1o
  have hil := h1.le
  have hsk := skip_le hil
  clear h1 h1p
  go_wp2_with fail
  go_at_call 25
  refine (spaces_any w _ _ s (by omega) i o _ HR.out).mono ?_
  rintro e w2 ⟨rfl, hr2⟩
  obtain ⟨q0, q1, q3, _, _, _⟩ := hr2.cells
  obtain ⟨v, hb, hown, _, hbel, _⟩ := hr2
  have q2 := hb.cell 2
  have HO := Lib.hid hown
  have HB := Lib.hid hbel
  clear hb hbel
  have HNO : Hid (parR s r = none → ParEnd w (parR s r) (.returned (.tuple #[.slice none 0 0, .bool false])) w2) := Lib.hid fun h => by
    rw [h]
    exact ⟨_, rfl, fun _ => rfl, fun l h => (by cases h), HB.out⟩
  obtain ⟨n, hn⟩ : ∃ n, nextB s i = n := ⟨_, rfl⟩
  rw [hn]
  obtain ⟨j, hj⟩ : ∃ j, skip s i = j := ⟨_, rfl⟩
  rw [hj] at q1 hsk
  have HSOME : Hid (∀ i' o', r = some (i', o') → i' = i ∧ o' = o) := Lib.hid fun i' o' h => by have := HP.out _ h; exact ⟨(Prod.mk.inj this).1, (Prod.mk.inj this).2⟩
  by_cases hn0 : n = 0
  · have d1 : ((n : Int) != 0) = false := by subst hn0; rfl
    have d2 : ((n : Int) == 0) = true := by subst hn0; rfl
    cases hrn : r.isNone
    · rw [hrn] at q3
      obtain ⟨p, hrp⟩ : ∃ p, r = some p := by
        cases r with
        | none => cases hrn
        | some p => exact ⟨p, rfl⟩
      have hpp := HP.out p hrp
      subst hpp
      by_cases hjl : j = s.length
      · have d3 : ((j : Int) != (s.length : Int)) = false := by rw [bne_eq_false_iff_eq]; omega
        have d4 : ((j : Int) == (s.length : Int)) = true := beq_iff_eq.2 (by omega)
        by_cases hlong : 60 < o.length
        · have d5 : decide ((60 : Int) < (o.length : Int)) = true := decide_eq_true (by omega)
          have hnp : parR s r = none := by rw [hrp]; show (if _ then _ else _) = none; rw [if_neg (fun h => by omega)]
          have HE := Lib.hid (HNO.out hnp)
          rcases Joins.ownsRow_forms hown with ⟨hnil, h0⟩ | ⟨g, c, hv⟩
          · omega
          · subst hv
            clear hown hnp hrp hrn
            go_wp2
            exact bodyPost_ret (v := .tuple #[.slice none 0 0, .bool false]) (by simp (maxDischargeDepth := 6) [results, Tryd.results9, go_sem]) rfl HE.out
        · have d5 : decide ((60 : Int) < (o.length : Int)) = false := decide_eq_false (by omega)
          have hnp : parR s r = some o := by rw [hrp]; show (if _ then _ else _) = some o; rw [if_pos ⟨by rw [hn, hn0], by rw [hj, hjl], by omega⟩]
          have HE : Hid (ParEnd w (parR s r) (.returned (.tuple #[v, .bool true])) w2) := Lib.hid (by
            rw [hnp]
            refine ⟨v, rfl, fun h => (by cases h), fun l h => ?_, HB.out⟩
            have := Option.some.inj h
            subst this
            exact HO.out.mono (Nat.le_succ _))
          rcases Joins.ownsRow_forms hown with ⟨hnil, h0⟩ | ⟨g, c, hv⟩
          · subst hnil
            have d6 : o.length = 0 := by omega
            clear hown hnp hrp hrn
            go_wp2
            exact bodyPost_ret (v := .tuple #[.slice none 0 0, .bool true]) (by simp (maxDischargeDepth := 6) [results, Tryd.results9, go_sem]) rfl HE.out
          · subst hv
            clear hown hnp hrp hrn
            go_wp2
            exact bodyPost_ret (v := .tuple #[.slice (some ⟨g, 0, none⟩) o.length c, .bool true]) (by simp (maxDischargeDepth := 6) [results, Tryd.results9, go_sem]) rfl HE.out
      · have d3 : ((j : Int) != (s.length : Int)) = true := by rw [bne_iff_ne]; omega
        have d4 : ((j : Int) == (s.length : Int)) = false := beq_eq_false_iff_ne.2 (by omega)
        have hnp : parR s r = none := by rw [hrp]; show (if _ then _ else _) = none; rw [if_neg (fun h => hjl (hj.symm.trans h.2.1))]
        have HE := Lib.hid (HNO.out hnp)
        clear hown hnp hrp hrn
        go_wp2
        exact bodyPost_ret (v := .tuple #[.slice none 0 0, .bool false]) (by simp (maxDischargeDepth := 6) [results, Tryd.results9, go_sem]) rfl HE.out
    · rw [hrn] at q3
      have hnp : parR s r = none := by
        cases r with
        | none => rfl
        | some p => cases hrn
      have HE := Lib.hid (HNO.out hnp)
      clear hown hnp hrn
      go_wp2
      exact bodyPost_ret (v := .tuple #[.slice none 0 0, .bool false]) (by simp (maxDischargeDepth := 6) [results, Tryd.results9, go_sem]) rfl HE.out
  · have d1 : ((n : Int) != 0) = true := by rw [bne_iff_ne]; omega
    have d2 : ((n : Int) == 0) = false := beq_eq_false_iff_ne.2 (by omega)
    have hnp : parR s r = none := by
      cases hr : r with
      | none => rfl
      | some p =>
        have := HP.out p hr
        subst this
        show (if _ then _ else _) = none
        rw [if_neg (fun h => hn0 (hn.symm.trans h.1))]
    have HE := Lib.hid (HNO.out hnp)
    clear hown hnp
    go_wp2
    exact bodyPost_ret (v := .tuple #[.slice none 0 0, .bool false]) (by simp (maxDischargeDepth := 6) [results, Tryd.results9, go_sem]) rfl HE.out
end Go.Proofs.YtjgjgjkffoagoaaDoor
