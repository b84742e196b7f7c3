/- The mirrored row of an expression: itself an expression, and its value over the conjugates of the slots is the conjugate, whichever sign a zero has. No program in sight. -/
import Derived.Test.YtjacimccpadgeaaMirE
import Derived.Test.YtjacimccpadgeaaPlain
namespace Go.Proofs.Ytjacimccpadgeaa
open Go.RowKit
set_option maxRecDepth 100000
set_option maxHeartbeats 4000000
set_option linter.unusedVariables false
set_option linter.unusedSimpArgs false

/-! ### Words -/
def BW (o : Option Nat) : Prop := ∀ a, o = some a → a < 2 ^ 64
theorem BW.cw {a : Nat} (h : a < 2 ^ 64) : BW (cw .f64 a) := by
  intro b hb
  rcases cw_cases .f64 a with ⟨h1, _⟩ | ⟨h1, _⟩
  · rw [h1] at hb; cases hb
  · rw [h1] at hb; cases hb; exact h
theorem BW.arith (op : BinOp) (x y : Option Nat) : BW (arithR op .f64 x y) := by
  intro r hr
  cases x with
  | none => cases hr
  | some x => cases y with
    | none => cases hr
    | some y =>
      have h : floatBits op .f64 x y = some r := hr
      unfold floatBits at h
      split at h
      · exact FloatKind.f64.format.add_lt h
      · exact FloatKind.f64.format.sub_lt h
      · exact FloatKind.f64.format.mul_lt h
      · exact FloatKind.f64.format.div_lt h
      · cases h
def BC (r : C2) : Prop := BW r.1 ∧ BW r.2
theorem BC.cz {z : Nat × Nat} (h : ZOk z) : BC (cz z) := ⟨BW.cw h.1, BW.cw h.2⟩
theorem getD_ZOk {s : List (Nat × Nat)} (h : ∀ z ∈ s, ZOk z) (n : Nat) : ZOk (s.getD n (0, 0)) := by
  by_cases hn : n < s.length
  · rw [List.getD_eq_getElem?_getD, List.getElem?_eq_getElem hn]
    exact h _ (List.getElem_mem hn)
  · rw [List.getD_eq_getElem?_getD, List.getElem?_eq_none (by omega)]
    exact ⟨by decide, by decide⟩
theorem evF_BC {x : Nd} {s zs : List (Nat × Nat)} {r : C2} (hx : GoodN x) (hs : ∀ z ∈ s, ZOk z) (hz : ∀ z ∈ zs, ZOk z) (h : evF x s zs = some r) : BC r := by
  have h0 := getD_ZOk hs 0
  have h1 := getD_ZOk hs 1
  unfold evF at h
  by_cases c1 : x.kind = 1
  · rw [if_pos c1] at h
    cases h
    rcases hx with ⟨_, _, hv⟩ | ⟨hk, _⟩ | ⟨⟨hk, _⟩, _⟩
    · exact BC.cz (good_ZOk hv)
    · omega
    · omega
  rw [if_neg c1] at h
  by_cases c2 : x.kind = 2
  · rw [if_pos c2] at h
    obtain ⟨z, hq, rfl⟩ := Option.map_eq_some_iff.1 h
    exact BC.cz (hz z (List.mem_of_getElem? hq))
  rw [if_neg c2] at h
  by_cases c3 : x.kind = 3
  · simp only [if_pos c3] at h
    cases h; exact BC.cz h0
  simp only [if_neg c3] at h
  by_cases c4 : x.kind = 4
  · simp only [if_pos c4] at h
    cases h; exact BC.cz h0.neg
  simp only [if_neg c4] at h
  by_cases c5 : x.kind = 5
  · simp only [if_pos c5] at h
    cases h; exact BC.cz h0.conj
  simp only [if_neg c5] at h
  by_cases c6 : x.kind = 6
  · simp only [if_pos c6] at h
    cases h; exact BC.cz ⟨h0.1, Nat.two_pow_pos 64⟩
  simp only [if_neg c6] at h
  by_cases c7 : x.kind = 7
  · simp only [if_pos c7] at h
    cases h; exact BC.cz ⟨h0.2, Nat.two_pow_pos 64⟩
  simp only [if_neg c7] at h
  by_cases c8 : x.kind = 8
  · simp only [if_pos c8] at h
    cases h; exact ⟨BW.arith _ _ _, BW.arith _ _ _⟩
  simp only [if_neg c8] at h
  by_cases c9 : x.kind = 9
  · simp only [if_pos c9] at h
    cases h; exact ⟨BW.arith _ _ _, BW.arith _ _ _⟩
  simp only [if_neg c9] at h
  by_cases c10 : x.kind = 10
  · simp only [if_pos c10] at h
    cases h; exact ⟨BW.arith _ _ _, BW.arith _ _ _⟩
  simp only [if_neg c10] at h
  by_cases c11 : x.kind = 11
  · simp only [if_pos c11] at h
    split at h
    · cases h
    · cases h
      unfold quoF
      split <;> exact ⟨BW.arith _ _ _, BW.arith _ _ _⟩
  simp only [if_neg c11] at h
  cases h
  split
  · exact BC.cz ⟨by decide, by decide⟩
  · exact BC.cz ⟨by decide, by decide⟩
theorem finC_ZFin {r : C2} {z : Nat × Nat} (hb : BC r) (h : finC r = some z) : ZFin z := by
  obtain ⟨a, b⟩ := r
  cases a with
  | none => cases h
  | some a => cases b with
    | none => cases h
    | some b =>
      have h' : (if finZ (a, b) then some (a, b) else none) = some z := h
      split at h'
      · rename_i hf
        cases h'
        exact fin_ZFin ⟨hb.1 a rfl, hb.2 b rfl⟩ hf
      · cases h'

/-! ### One node and its mirrored nodes -/
/-- Is it an imaginary number? -/
def imP (x : Nd) : Bool := decide (x.kind = 1) && (FloatKind.f64.format.order x.im 0 != some .eq)
abbrev ndM : Nd := ⟨4, 0, 0, 0⟩
def mir (x : Nd) : List Nd := if imP x then [x, ndM] else [x]
theorem imP_no {x : Nd} (h : GoodN x) (hk : x.kind = 1) (hp : imP x = false) : x.im = 0 := by
  rcases h with ⟨_, _, hv⟩ | ⟨h2, _⟩ | ⟨⟨h3, _⟩, _⟩
  · have hg := hv.both.2
    have e := good_gt hg
    unfold imP at hp
    rw [decide_eq_true hk, Bool.true_and] at hp
    have ho : FloatKind.f64.format.order x.im 0 = some .eq := by
      cases hq : FloatKind.f64.format.order x.im 0 with
      | none => rw [hq] at hp; cases hp
      | some o => rw [hq] at hp; cases o <;> first | rfl | (exact absurd hp (by decide))
    rw [ho] at e
    have e' : false = decide (x.im ≠ 0) := e
    by_cases h0 : x.im = 0
    · exact h0
    · rw [decide_eq_true h0] at e'; cases e'
  · omega
  · omega
theorem imP_yes {x : Nd} (h : GoodN x) (hp : imP x = true) : x = ⟨1, 0, 0, x.im⟩ ∧ ZFin (0, x.im) := by
  unfold imP at hp
  obtain ⟨hk, ho⟩ := Bool.and_eq_true_iff.1 hp
  have hk := of_decide_eq_true hk
  rcases h with ⟨_, hs, hv⟩ | ⟨h2, _⟩ | ⟨⟨h3, _⟩, _⟩
  · have hf := hv.both.2.fin.1
    rcases hv with ⟨_, h0⟩ | ⟨h0, _⟩
    · rw [h0] at ho
      exact absurd ho (by decide)
    · refine ⟨?_, FinW.zero, hf⟩
      obtain ⟨a, b, c, d⟩ := x
      simp only at hk hs h0
      subst hk hs h0
      rfl
  · omega
  · omega
theorem SJ.zok : ∀ {s t : List (Nat × Nat)}, SJ s t → (∀ z ∈ s, ZOk z) ∧ (∀ z ∈ t, ZOk z)
  | [], [], _ => ⟨by simp, by simp⟩
  | z :: s, w :: t, h => by
    have hh := SJ.zok h.2
    refine ⟨fun y hy => ?_, fun y hy => ?_⟩
    · rcases List.mem_cons.1 hy with rfl | hy
      · exact h.1.2.2.1
      · exact hh.1 y hy
    · rcases List.mem_cons.1 hy with rfl | hy
      · exact h.1.2.2.2
      · exact hh.2 y hy
  | [], w :: t, h => h.elim
  | z :: s, [], h => h.elim
def SO : Option (List (Nat × Nat)) → Option (List (Nat × Nat)) → Prop
  | none, none => True
  | some s, some t => SJ s t
  | _, _ => False
theorem stp_SO {x : Nd} {s t zs : List (Nat × Nat)} (hx : GoodN x) (h : SJ s t) (hz : ∀ z ∈ zs, ZOk z) (hk1 : x.kind = 1 → x.im = 0) (hk7 : x.kind ≠ 7) : SO (stp x s zs) (stp x t (zs.map kz)) := by
  have hl := h.len
  have hd := SJ.drop (s.length - ar x.kind) h
  have ht := SJ.take (s.length - ar x.kind) h
  have hzk : ∀ z ∈ zs.map kz, ZOk z := by
    intro z hm
    obtain ⟨y, hy, rfl⟩ := List.mem_map.1 hm
    exact (hz y hy).conj
  have he := evF_EO hd hz hk1 hk7
  unfold stp
  rw [hl]
  cases q : evF x (s.drop (s.length - ar x.kind)) zs with
  | none => cases q' : evF x (t.drop (s.length - ar x.kind)) (zs.map kz) with
    | none => trivial
    | some r' => rw [q, q'] at he; exact he.elim
  | some r => cases q' : evF x (t.drop (s.length - ar x.kind)) (zs.map kz) with
    | none => rw [q, q'] at he; exact he.elim
    | some r' =>
      rw [q, q'] at he
      have b := evF_BC hx hd.zok.1 hz q
      have b' := evF_BC hx hd.zok.2 hzk q'
      have hf := finC_FO he
      show SO ((finC r).map _) ((finC r').map _)
      cases p : finC r with
      | none => cases p' : finC r' with
        | none => trivial
        | some z' => rw [p, p'] at hf; exact hf.elim
      | some z => cases p' : finC r' with
        | none => rw [p, p'] at hf; exact hf.elim
        | some z' =>
          rw [p, p'] at hf
          exact SJ.snoc ht hf.1 hf.2 (finC_ZFin b p).ok (finC_ZFin b' p').ok
theorem stp_one {b : Nat} (zs s : List (Nat × Nat)) (h : ZFin (0, b)) : stp ⟨1, 0, 0, b⟩ s zs = some (s ++ [(0, b)]) := by
  have e : stp ⟨1, 0, 0, b⟩ s zs = (finC (cz (0, b))).map fun z => s.take (s.length - 0) ++ [z] := rfl
  rw [e, finC_self h, Nat.sub_zero, List.take_length]
  rfl
theorem stp_turn {z : Nat × Nat} (zs s : List (Nat × Nat)) (h : ZFin z) : stp ndM (s ++ [z]) zs = some (s ++ [nz z]) := by
  have e : stp ndM (s ++ [z]) zs = (some (cz (nz (((s ++ [z]).drop ((s ++ [z]).length - 1)).getD 0 (0, 0)))) |>.bind finC).map fun y => (s ++ [z]).take ((s ++ [z]).length - 1) ++ [y] := rfl
  rw [e]
  have hl : (s ++ [z]).length - 1 = s.length := by simp
  rw [hl, List.drop_left, List.take_left]
  show (finC (cz (nz z))).map _ = _
  rw [finC_self h.neg]
  rfl
theorem mir_SO {x : Nd} {s t zs : List (Nat × Nat)} (hx : GoodN x) (h : SJ s t) (hz : ∀ z ∈ zs, ZOk z) (hk7 : x.kind ≠ 7) : SO (stp x s zs) (evs (zs.map kz) (mir x) t) := by
  cases hp : imP x
  · have e : evs (zs.map kz) (mir x) t = (stp x t (zs.map kz)).bind fun t' => some t' := by
      unfold mir
      rw [hp]
      rfl
    have e2 : ((stp x t (zs.map kz)).bind fun t' => some t') = stp x t (zs.map kz) := by cases stp x t (zs.map kz) <;> rfl
    rw [e, e2]
    exact stp_SO hx h hz (fun hk => imP_no hx hk hp) hk7
  · obtain ⟨hxe, hf⟩ := imP_yes hx hp
    have e : evs (zs.map kz) (mir x) t = (stp x t (zs.map kz)).bind fun t' => (stp ndM t' (zs.map kz)).bind fun t'' => some t'' := by
      unfold mir
      rw [hp]
      rfl
    rw [e, hxe]
    show SO _ ((stp ⟨1, 0, 0, x.im⟩ t (zs.map kz)).bind _)
    rw [stp_one zs s hf, stp_one (zs.map kz) t hf]
    show SO _ ((stp ndM (t ++ [(0, x.im)]) (zs.map kz)).bind fun t'' => some t'')
    rw [stp_turn _ t hf]
    have h0 : ru F64 0 = 0 := ru_zero .f64
    refine SJ.snoc h ⟨⟨ru_neg .f64 (Nat.two_pow_pos 64), fun hc => absurd h0 hc⟩, WR.turn hf.2.1⟩ ⟨hf.1.2, hf.2.2⟩ hf.ok hf.neg.ok
/-- A whole row. -/
theorem evs_SO {zs : List (Nat × Nat)} (hz : ∀ z ∈ zs, ZOk z) : ∀ (l : List Nd) (s t : List (Nat × Nat)), (∀ x ∈ l, GoodN x) → (∀ x ∈ l, x.kind ≠ 7) → SJ s t → SO (evs zs l s) (evs (zs.map kz) (l.flatMap mir) t)
  | [], s, t, _, _, h => h
  | x :: l, s, t, hg, h7, h => by
    have hx := hg x (by simp)
    have hx7 := h7 x (by simp)
    have hm := mir_SO hx h hz hx7
    rw [List.flatMap_cons, evs_append]
    show SO ((stp x s zs).bind fun s' => evs zs l s') _
    cases q : stp x s zs with
    | none => cases q' : evs (zs.map kz) (mir x) t with
      | none => trivial
      | some t' => rw [q, q'] at hm; exact hm.elim
    | some s' => cases q' : evs (zs.map kz) (mir x) t with
      | none => rw [q, q'] at hm; exact hm.elim
      | some t' =>
        rw [q, q'] at hm
        exact evs_SO hz l s' t' (fun y hy => hg y (by simp [hy])) (fun y hy => h7 y (by simp [hy])) hm

/-! ### The mirrored row is an expression of the kind drawn -/
theorem mir_good {l : List Nd} (h : ∀ x ∈ l, GoodN x) : ∀ x ∈ l.flatMap mir, GoodN x := by
  intro x hx
  obtain ⟨y, hy, hm⟩ := List.mem_flatMap.1 hx
  unfold mir at hm
  split at hm
  · simp only [List.mem_cons, List.not_mem_nil, or_false] at hm
    rcases hm with rfl | rfl
    · exact h _ hy
    · exact Or.inr (Or.inr ⟨⟨by decide, by decide⟩, rfl, rfl, rfl⟩)
  · simp only [List.mem_cons, List.not_mem_nil, or_false] at hm
    subst hm
    exact h _ hy
theorem hrun_mir : ∀ (l : List Nd) (h : Nat), hrun h (l.flatMap mir) = hrun h l
  | [], h => rfl
  | x :: l, h => by
    rw [List.flatMap_cons, hrun_append]
    have hk := fun k => hrun_mir l k
    have e : hrun h (mir x) = if h < arity x then none else some (h + 1 - arity x) := by
      unfold mir
      split
      · show (if h < arity x then none else if h + 1 - arity x < 1 then none else some (h + 1 - arity x + 1 - 1)) = _
        split
        · rfl
        · rw [if_neg (by omega)]; rfl
      · rfl
    rw [e]
    show _ = if h < arity x then none else hrun (h + 1 - arity x) l
    split
    · rfl
    · exact hk _
theorem mir_ex {l : List Nd} (h : IsEx l) : IsEx (l.flatMap mir) := fun n => by rw [hrun_mir, h n]
theorem mir_len (x : Nd) : 1 ≤ (mir x).length := by unfold mir; split <;> simp
theorem flat_mir_len : ∀ (l : List Nd), l.length ≤ (l.flatMap mir).length
  | [] => Nat.le_refl _
  | x :: l => by
    rw [List.flatMap_cons, List.length_append, List.length_cons]
    have := mir_len x
    have := flat_mir_len l
    omega

/-! ### The values compared -/
theorem conj_eq {z y : Nat × Nat} (h : ZJ z y) (hz : ZFin z) (hy : ZFin y) : eqZ y (kz z) = true := by
  have hk := hz
  have e1 : key .f64 y.1 = sgZ false (key .f64 z.1) := key_turn h.1
  have e2 : key .f64 y.2 = sgZ true (key .f64 z.2) := key_turn h.2
  have e3 : key .f64 (Op.negFloat .f64 z.2) = sgZ true (key .f64 z.2) := key_turn (WR.turn hz.2.1)
  unfold eqZ
  rw [ord_eq .f64 (Nat.le_of_lt hy.1.2) (Nat.le_of_lt hz.1.2), ord_eq .f64 (Nat.le_of_lt hy.2.2) (Nat.le_of_lt hz.neg.2.2)]
  rw [e1, e2]
  show (decide (sgZ false (key .f64 z.1) = key .f64 z.1) && decide (sgZ true (key .f64 z.2) = key .f64 (Op.negFloat .f64 z.2))) = true
  rw [e3]
  simp [sgZ]
theorem evs_mirror {l : List Nd} {zs : List (Nat × Nat)} (hg : ∀ x ∈ l, GoodN x) (h7 : ∀ x ∈ l, x.kind ≠ 7) (hex : IsEx l) (hz : ∀ z ∈ zs, ZOk z) :
    (evs zs l [] = none ∧ evs (zs.map kz) (l.flatMap mir) [] = none) ∨ ∃ z y, evs zs l [] = some [z] ∧ evs (zs.map kz) (l.flatMap mir) [] = some [y] ∧ (ZFin z → ZFin y → eqZ y (kz z) = true) := by
  have h := evs_SO hz l [] [] hg h7 trivial
  cases q : evs zs l [] with
  | none => cases q' : evs (zs.map kz) (l.flatMap mir) [] with
    | none => exact Or.inl ⟨rfl, rfl⟩
    | some t => rw [q, q'] at h; exact h.elim
  | some s => cases q' : evs (zs.map kz) (l.flatMap mir) [] with
    | none => rw [q, q'] at h; exact h.elim
    | some t =>
      rw [q, q'] at h
      obtain ⟨z, rfl⟩ := evs_one hex q
      obtain ⟨y, rfl⟩ := evs_one (mir_ex hex) q'
      exact Or.inr ⟨z, y, rfl, rfl, fun hz hy => conj_eq h.1.1 hz hy⟩
end Go.Proofs.Ytjacimccpadgeaa
