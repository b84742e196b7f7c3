/- What the program's evaluation of a drawn node is, all kinds in one; and what evaluating a row of nodes is, as a plain function. -/
import Derived.Test.YtjacimccpadgeaaEvI
namespace Go.Proofs.Ytjacimccpadgeaa
open Go.RowKit
set_option maxRecDepth 100000
set_option maxHeartbeats 4000000
set_option linter.unusedVariables false
set_option linter.unusedSimpArgs false

theorem evI_any (x : Nd) (hx : GoodN x) (ops zs : List (Nat × Nat)) (hops : ops.length = ar x.kind) (hf : ∀ z ∈ ops, ZFin z) (hzs : ∀ z ∈ zs, ZOk z) (hl : zs.length ≤ 5) (lv sv : Value) (w : World) (ho : OView w lv ops) (hs : SView w sv zs) :
    Calls Try.prog 22 #[ndV x, lv, sv] w (EvEnd (evF x ops zs) w) := by
  obtain ⟨k, s, re, im⟩ := x
  obtain ⟨A, cap, rfl, hcells⟩ := ho
  rcases hx with ⟨h1, h2, h3⟩ | ⟨h1, h2, h3, h4⟩ | ⟨h1, h2, h3, h4⟩
  · simp only at h1 h2 h3
    subst h1 h2
    exact evI_num re im h3 _ sv w
  · simp only at h1 h2 h3 h4
    subst h1 h3 h4
    obtain ⟨b, c, rfl, hb, hc⟩ := hs
    exact evI_slot s h2 _ b c zs w hzs hb hc hl
  · simp only at h1 h2 h3 h4
    subst h2 h3 h4
    simp only at hops
    by_cases hk : k ≤ 7
    · have ha : ar k = 1 := by unfold ar; rw [if_neg (by omega), if_pos (by omega)]
      rw [ha] at hops
      obtain ⟨z, rfl⟩ := List.length_eq_one_iff.1 hops
      obtain ⟨b, off, rfl, hb, hq⟩ := hcells 0 (by simp)
      have hz := hf z (by simp)
      have hq : w.cell? ⟨b, off, none⟩ = some (zv z) := hq
      have hk' : k = 3 ∨ k = 4 ∨ k = 5 ∨ k = 6 ∨ k = 7 := by omega
      rcases hk' with rfl | rfl | rfl | rfl | rfl
      · exact evI_plus z hz.ok b off cap sv w hb hq
      · exact evI_minus z hz.ok b off cap sv w hb hq
      · exact evI_conj z hz.ok b off cap sv w hb hq
      · exact evI_real z hz.ok b off cap sv w hb hq
      · exact evI_imag z hz.ok b off cap sv w hb hq
    · have ha : ar k = 2 := by unfold ar; rw [if_pos (by omega)]
      rw [ha] at hops
      obtain ⟨z, y, rfl⟩ : ∃ z y, ops = [z, y] := by
        match ops, hops with
        | [z, y], _ => exact ⟨z, y, rfl⟩
      obtain ⟨b, off, hA, hb, hq⟩ := hcells 0 (by simp)
      obtain ⟨b', off', hA', _, hq1⟩ := hcells 1 (by simp)
      subst hA
      cases hA'
      have hz := hf z (by simp)
      have hy := hf y (by simp)
      have hq : w.cell? ⟨b, off, none⟩ = some (zv z) := hq
      have hq1 : w.cell? ⟨b, off + 1, none⟩ = some (zv y) := hq1
      have hk' : k = 8 ∨ k = 9 ∨ k = 10 ∨ k = 11 ∨ k = 12 := by omega
      rcases hk' with rfl | rfl | rfl | rfl | rfl
      · exact evI_sum z y b off cap sv w hb hq hq1
      · exact evI_diff z y b off cap sv w hb hq hq1
      · exact evI_prod z y b off cap sv w hb hq hq1
      · have e : evF ⟨11, 0, 0, 0⟩ [z, y] zs = if eqZ y (0, 0) then none else some (quoF z y) := rfl
        rw [e]
        cases he : eqZ y (0, 0)
        · exact evI_quo z y hz hy he b off cap sv w hb hq hq1
        · exact evI_quo0 z y he b off cap sv w hb hq hq1
      · exact evI_eq z y b off cap sv w hb hq hq1

/-- The words of a result whose parts are finite. -/
def finC : C2 → Option (Nat × Nat)
  | (some a, some b) => if finZ (a, b) then some (a, b) else none
  | _ => none
theorem finC_of {r : C2} {z : Nat × Nat} (h : Res r z) : finC r = if finZ z then some z else none := by
  obtain ⟨h1, h2, h3⟩ := h
  have e : r = (cw .f64 z.1, cw .f64 z.2) := by rw [h1, h2]
  rw [e]
  rcases cw_cases .f64 z.1 with ⟨a1, a2⟩ | ⟨a1, a2⟩
  · have : finZ z = false := by unfold finZ finB; rw [decide_eq_false (by omega)]; rfl
    rw [a1, this]; rfl
  · rcases cw_cases .f64 z.2 with ⟨b1, b2⟩ | ⟨b1, b2⟩
    · have : finZ z = false := by
        unfold finZ finB
        rw [show decide (ru FloatKind.f64.format z.2 < FloatKind.f64.format.infRung) = false from decide_eq_false (by omega), Bool.and_false]
      rw [a1, b1, this]; rfl
    · rw [a1, b1]; rfl
theorem fin_ZFin {z : Nat × Nat} (h : ZOk z) (hf : finZ z = true) : ZFin z := by
  unfold finZ finB at hf
  simp only [Bool.and_eq_true, decide_eq_true_eq] at hf
  exact ⟨⟨h.1, hf.1⟩, ⟨h.2, hf.2⟩⟩
/-- One node: the values before and after. -/
def stp (x : Nd) (st slots : List (Nat × Nat)) : Option (List (Nat × Nat)) :=
  ((evF x (st.drop (st.length - ar x.kind)) slots).bind finC).map fun z => st.take (st.length - ar x.kind) ++ [z]
/-- A row of nodes. -/
def evs (slots : List (Nat × Nat)) : List Nd → List (Nat × Nat) → Option (List (Nat × Nat))
  | [], st => some st
  | x :: l, st => (stp x st slots).bind fun st' => evs slots l st'
theorem evs_append (slots : List (Nat × Nat)) : ∀ (a b : List Nd) (st : List (Nat × Nat)), evs slots (a ++ b) st = (evs slots a st).bind fun st' => evs slots b st'
  | [], b, st => rfl
  | x :: a, b, st => by
    show (stp x st slots).bind (fun st' => evs slots (a ++ b) st') = ((stp x st slots).bind fun st' => evs slots a st').bind _
    cases stp x st slots with
    | none => rfl
    | some st' => exact evs_append slots a b st'
theorem stp_len {x : Nd} {st st' slots : List (Nat × Nat)} (h : stp x st slots = some st') (ha : ar x.kind ≤ st.length) : st'.length = st.length + 1 - ar x.kind := by
  unfold stp at h
  obtain ⟨z, _, rfl⟩ := Option.map_eq_some_iff.1 h
  simp only [List.length_append, List.length_take, List.length_singleton]
  omega
/-- One value is left behind an expression. -/
theorem evs_len (slots : List (Nat × Nat)) : ∀ (l : List Nd) (st st' : List (Nat × Nat)) (m : Nat), evs slots l st = some st' → hrun st.length l = some m → st'.length = m
  | [], st, st', m, h, hr => by
    have h1 : st = st' := Option.some.inj h
    have h2 : st.length = m := Option.some.inj hr
    rw [← h1, h2]
  | x :: l, st, st', m, h, hr => by
    have h' : (stp x st slots).bind (fun st' => evs slots l st') = some st' := h
    obtain ⟨s1, e1, e2⟩ := Option.bind_eq_some_iff.1 h'
    unfold hrun at hr
    split at hr
    · cases hr
    · rename_i hlt
      have hlt' : ¬ st.length < ar x.kind := hlt
      have := stp_len e1 (by omega)
      exact evs_len slots l s1 st' m e2 (by rw [this]; exact hr)
end Go.Proofs.Ytjacimccpadgeaa
