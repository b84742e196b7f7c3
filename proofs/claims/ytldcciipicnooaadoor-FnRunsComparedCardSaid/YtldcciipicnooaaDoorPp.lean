/-
  What is proved here: the plain laws of the texts of pairs of whole numbers: where their signs stand, what is read on the two sides, and that one text is the text of one pair. No condition.
-/
import Derived.Test.YtldcciipicnooaaDoorPu
namespace Go.Proofs.YtldcciipicnooaaDoor
open Go.RowKit
open Go.Lib (itoa decDigits nDigits nDigits_le20 itoa_length_le)
set_option maxRecDepth 100000
set_option linter.unusedVariables false
set_option linter.unusedSimpArgs false

/-- A whole number of units. -/
def InQ (n : Int) : Prop := -1000000000 ≤ n ∧ n ≤ 1000000000
/-- A sign's byte. -/
def IsSg (c : UInt8) : Prop := c.toNat = 43 ∨ c.toNat = 45

theorem itoa_abs (n : Int) : itoa n = (if n < 0 then [45] else []) ++ decDigits n.natAbs := by
  unfold itoa
  by_cases h : n < 0
  · simp [h]
  · have e : n.toNat = n.natAbs := by omega
    simp [h, e]
theorem sgn_abs (n : Int) : sgn n = (if n < 0 then 45 else 43) :: decDigits n.natAbs := by
  unfold sgn
  rw [itoa_abs]
  by_cases h : n < 0 <;> simp [h]
theorem dec_pos (u : Nat) : 1 ≤ (decDigits u).length := by rw [Lib.decDigits_length]; exact Lib.nDigits_pos _
theorem sgn_two (n : Int) : 2 ≤ (sgn n).length := by rw [sgn_abs]; have := dec_pos n.natAbs; simp; omega
theorem dec_inj {u v : Nat} (h : decDigits u = decDigits v) : u = v := by
  have a := dval_decDigits u
  have b := dval_decDigits v
  rw [h] at a
  omega
theorem dec_ten (u : Nat) (h : u ≤ 1000000000) : (decDigits u).length ≤ 10 := by
  have := (len_itoa (u : Int) (by omega) (by omega)).2
  rw [itoa_nat _ (by omega)] at this
  simpa using this
theorem sgn_eleven (n : Int) (h : InQ n) : (sgn n).length ≤ 11 := by
  rw [sgn_abs]
  have := dec_ten n.natAbs (by have := h.1; have := h.2; omega)
  simp
  omega
theorem sgn_inj {m n : Int} (h : sgn m = sgn n) : m = n := by
  rw [sgn_abs, sgn_abs] at h
  have hd := dec_inj (List.cons.inj h).2
  have hs := (List.cons.inj h).1
  by_cases a : m < 0 <;> by_cases b : n < 0 <;> simp [a, b] at hs <;> omega
theorem itoa_inj {m n : Int} (h : itoa m = itoa n) : m = n := by
  apply sgn_inj
  have key : ∀ x y : Int, x < 0 → ¬y < 0 → itoa x = itoa y → False := by
    intro x y hx hy e
    have f := figs_itoa y (by omega) 45 (by rw [← e, itoa_abs]; simp [hx])
    simp at f
  by_cases a : m < 0 <;> by_cases b : n < 0
  · simp [sgn, a, b, h]
  · exact (key m n a b h).elim
  · exact (key n m b a h.symm).elim
  · simp [sgn, a, b, h]

theorem PuR.full {l : List UInt8} {r : Int} {ok : Bool} (h : PuR l r ok) (u : Nat) (hu : u ≤ 1000000000) (hl : decDigits u = l) : ok = true ∧ r = u := by
  have hi : itoa (u : Int) = l := by rw [itoa_nat _ (by omega)]; simpa using hl
  cases ok
  · exact absurd hi ((h.2 rfl).2 u (by omega) (by omega))
  · obtain ⟨h0, h1, h2⟩ := h.1 rfl
    exact ⟨rfl, itoa_inj (h2.trans hi.symm)⟩
theorem PuR.range {l : List UInt8} {r : Int} {ok : Bool} (h : PuR l r ok) : 0 ≤ r ∧ r ≤ 1000000000 := by
  cases ok
  · have := (h.2 rfl).1; omega
  · have := h.1 rfl; omega

/-- What is read of a number with its sign. -/
def NumR (t : List UInt8) (n : Int) (ok : Bool) : Prop := (-1000000000 ≤ n ∧ n ≤ 1000000000) ∧ ∀ m : Int, InQ m → sgn m = t → n = m ∧ ok = true
theorem num_short (t : List UInt8) (h : t.length < 2) : NumR t 0 false := by
  refine ⟨by omega, fun m _ e => ?_⟩
  have := sgn_two m
  rw [e] at this
  omega
theorem num_minus (t : List UInt8) (h0 : 0 < t.length) (r : Int) (ok : Bool) (h : PuR (t.drop 1) r ok) (hc : t[0].toNat = 45) : NumR t (-r) ok := by
  have hr := h.range
  refine ⟨by omega, fun m hm e => ?_⟩
  rw [sgn_abs] at e
  subst e
  obtain ⟨a, b⟩ := h.full m.natAbs (by have := hm.1; have := hm.2; omega) rfl
  by_cases hn : m < 0
  · exact ⟨by omega, a⟩
  · simp [hn] at hc
theorem num_plus (t : List UInt8) (h0 : 0 < t.length) (r : Int) (ok : Bool) (h : PuR (t.drop 1) r ok) (hc : t[0].toNat ≠ 45) : NumR t r ok := by
  have hr := h.range
  refine ⟨by omega, fun m hm e => ?_⟩
  rw [sgn_abs] at e
  subst e
  obtain ⟨a, b⟩ := h.full m.natAbs (by have := hm.1; have := hm.2; omega) rfl
  by_cases hn : m < 0
  · simp [hn] at hc
  · exact ⟨by omega, a⟩

theorem sgn_parts (a : Int) : ∃ s D, sgn a = s :: D ∧ IsSg s ∧ figs D ∧ 1 ≤ D.length := by
  refine ⟨_, _, sgn_abs a, ?_, figs_decDigits _, dec_pos _⟩
  by_cases h : a < 0
  · rw [if_pos h]; exact Or.inr rfl
  · rw [if_neg h]; exact Or.inl rfl

theorem place_first (a b : Int) (l : List UInt8) (h : sgn a ++ sgn b ++ [105] = l) (k : Nat) (h1 : 1 ≤ k) (hk : k ≤ l.length)
    (hno : ∀ i (hi : i < l.length), 1 ≤ i → i < k → ¬IsSg l[i]) (hat : ∀ hi : k < l.length, IsSg l[k]) : k = (sgn a).length := by
  obtain ⟨s, D, e1, hs, hD, hl⟩ := sgn_parts a
  obtain ⟨s', D', e2, hs', hD', hl'⟩ := sgn_parts b
  rw [e1, e2] at h
  rw [e1]
  subst h
  rcases Nat.lt_trichotomy k (s :: D).length with c | c | c
  · obtain ⟨j, rfl⟩ : ∃ j, k = j + 1 := ⟨k - 1, by omega⟩
    have hj : j < D.length := by simpa using c
    have hx := hat (by simp; omega)
    have e : ((s :: D) ++ (s' :: D') ++ [105])[j + 1]'(by simp; omega) = D[j] := by simp [List.getElem_append, hj]
    rw [e] at hx
    have := hD D[j] (List.getElem_mem hj)
    rcases hx with hx | hx <;> omega
  · exact c
  · have hx := hno (s :: D).length (by simp) (by simp) c
    exact (hx (by simpa [List.getElem_append] using hs')).elim

theorem place_last (a b : Int) (l : List UInt8) (h : sgn a ++ sgn b ++ [105] = l) (k : Nat) (hk : k < l.length) (hat : IsSg l[k])
    (hno : ∀ i (hi : i < l.length), k < i → ¬IsSg l[i]) : k = (sgn a).length := by
  obtain ⟨s, D, e1, hs, hD, hl⟩ := sgn_parts a
  obtain ⟨s', D', e2, hs', hD', hl'⟩ := sgn_parts b
  rw [e1, e2] at h
  rw [e1]
  subst h
  rcases Nat.lt_trichotomy k (s :: D).length with c | c | c
  · have hx := hno (s :: D).length (by simp) c
    exact (hx (by simpa [List.getElem_append] using hs')).elim
  · exact c
  · exfalso
    obtain ⟨j, rfl⟩ : ∃ j, k = (s :: D).length + 1 + j := ⟨k - (s :: D).length - 1, by omega⟩
    by_cases hj : j < D'.length
    · have e : ((s :: D) ++ (s' :: D') ++ [105])[(s :: D).length + 1 + j]'hk = D'[j] := by
        have : ((s :: D) ++ (s' :: D') ++ [105])[(s :: D).length + 1 + j]? = some D'[j] := by
          rw [List.append_assoc, List.getElem?_append_right (by omega)]
          have : (s :: D).length + 1 + j - (s :: D).length = j + 1 := by omega
          rw [this]
          simp [List.getElem?_append, hj]
        rw [List.getElem?_eq_getElem hk] at this
        exact Option.some.inj this
      rw [e] at hat
      have := hD' D'[j] (List.getElem_mem hj)
      rcases hat with hx | hx <;> omega
    · obtain rfl : j = D'.length := by simp at hk; omega
      have e : ((s :: D) ++ (s' :: D') ++ [105])[(s :: D).length + 1 + D'.length]'hk = 105 := by
        have : ((s :: D) ++ (s' :: D') ++ [105])[(s :: D).length + 1 + D'.length]? = some 105 := by
          rw [List.append_assoc, List.getElem?_append_right (by omega)]
          have : (s :: D).length + 1 + D'.length - (s :: D).length = D'.length + 1 := by omega
          rw [this]
          simp
        rw [List.getElem?_eq_getElem hk] at this
        exact Option.some.inj this
      rw [e] at hat
      rcases hat with hx | hx <;> simp at hx

theorem place_none (a b : Int) (l : List UInt8) (h : sgn a ++ sgn b ++ [105] = l) (hno : ∀ i (hi : i < l.length), ¬IsSg l[i]) : False := by
  obtain ⟨s, D, e1, hs, hD, hl⟩ := sgn_parts a
  rw [e1] at h
  subst h
  exact hno 0 (by simp) (by simpa using hs)

/-- What is read of the text of a pair. -/
def PpR (l : List UInt8) (a b : Int) (ok : Bool) : Prop :=
  (ok = true → InQ a ∧ InQ b ∧ sgn a ++ sgn b ++ [105] = l) ∧ (ok = false → a = 0 ∧ b = 0 ∧ ∀ x y, InQ x → InQ y → sgn x ++ sgn y ++ [105] ≠ l)

theorem pair_length (x y : Int) : (sgn x ++ sgn y ++ [105]).length = (sgn x).length + (sgn y).length + 1 := by simp; omega
theorem pair_inj {a b x y : Int} (h : sgn a ++ sgn b ++ [105] = sgn x ++ sgn y ++ [105]) : a = x ∧ b = y := by
  have hp : (sgn a).length = (sgn x).length := by
    obtain ⟨s, D, e1, hs, hD, hl⟩ := sgn_parts a
    obtain ⟨s', D', e2, hs', hD', hl'⟩ := sgn_parts b
    refine place_first x y _ h.symm (sgn a).length (by rw [e1]; simp) (by simp) ?_ ?_
    · intro i hi g1 g2 hx
      rw [e1] at g2
      obtain ⟨j, rfl⟩ : ∃ j, i = j + 1 := ⟨i - 1, by omega⟩
      have hj : j < D.length := by simpa using g2
      have e : (sgn a ++ sgn b ++ [105])[j + 1] = D[j] := by simp [List.getElem_append, hj, e1]
      rw [e] at hx
      have := hD D[j] (List.getElem_mem hj)
      rcases hx with hx | hx <;> omega
    · intro hi
      have e : (sgn a ++ sgn b ++ [105])[(sgn a).length] = s' := by simp [List.getElem_append, e2]
      rw [e]
      exact hs'
  have h1 := List.append_cancel_right h
  obtain ⟨ea, eb⟩ := List.append_inj h1 hp
  exact ⟨sgn_inj ea, sgn_inj eb⟩

theorem PpR.unique {l : List UInt8} {a b x y : Int} {o p : Bool} (h : PpR l a b o) (g : PpR l x y p) : a = x ∧ b = y ∧ o = p := by
  cases o <;> cases p
  · have h1 := h.2 rfl; have g1 := g.2 rfl
    exact ⟨by rw [h1.1, g1.1], by rw [h1.2.1, g1.2.1], rfl⟩
  · have g1 := g.1 rfl
    exact ((h.2 rfl).2.2 x y g1.1 g1.2.1 g1.2.2).elim
  · have g1 := h.1 rfl
    exact ((g.2 rfl).2.2 a b g1.1 g1.2.1 g1.2.2).elim
  · have h1 := h.1 rfl; have g1 := g.1 rfl
    obtain ⟨ea, eb⟩ := pair_inj (h1.2.2.trans g1.2.2.symm)
    exact ⟨ea, eb, rfl⟩

theorem pp_short (l : List UInt8) (h : l.length < 5) : PpR l 0 0 false := by
  refine ⟨by simp, fun _ => ⟨rfl, rfl, fun x y _ _ e => ?_⟩⟩
  have := sgn_two x; have := sgn_two y
  have := pair_length x y
  rw [e] at this
  omega
theorem pp_long (l : List UInt8) (h : 30 < l.length) : PpR l 0 0 false := by
  refine ⟨by simp, fun _ => ⟨rfl, rfl, fun x y hx hy e => ?_⟩⟩
  have := sgn_eleven x hx; have := sgn_eleven y hy
  have := pair_length x y
  rw [e] at this
  omega
theorem pp_yes (l : List UInt8) (a b : Int) (ha : InQ a) (hb : InQ b) (h : pairTx a b = l) : PpR l a b true := by
  refine ⟨fun _ => ⟨ha, hb, ?_⟩, by simp⟩
  unfold pairTx at h
  rwa [if_pos ⟨ha, hb⟩] at h
theorem pairTx_of (a b : Int) (ha : InQ a) (hb : InQ b) : pairTx a b = sgn a ++ sgn b ++ [105] := by
  unfold pairTx
  rw [if_pos ⟨ha, hb⟩]

/-- The parts of a pair's text. -/
theorem parts_of (x y : Int) : (sgn x ++ sgn y ++ [105]).take (sgn x).length = sgn x ∧ ((sgn x ++ sgn y ++ [105]).drop (sgn x).length).take ((sgn x ++ sgn y ++ [105]).length - 1 - (sgn x).length) = sgn y := by
  constructor
  · rw [List.append_assoc, List.take_left]
  · rw [List.append_assoc, List.drop_left]
    have e : (sgn x ++ (sgn y ++ [105])).length - 1 - (sgn x).length = (sgn y).length := by simp
    rw [e, List.take_left]

/-- The reference's reading: if the parts at the first sign's place do not give the text again, the text is no pair's. -/
theorem pp_no (l : List UInt8) (k : Nat) (h1 : 1 ≤ k) (hk : k ≤ l.length) (hno : ∀ i (hi : i < l.length), 1 ≤ i → i < k → ¬IsSg l[i]) (hat : ∀ hi : k < l.length, IsSg l[k])
    (re im : Int) (f g : Bool) (hf : NumR (l.take k) re f) (hg : NumR ((l.drop k).take (l.length - 1 - k)) im g) (hbad : f = false ∨ g = false ∨ pairTx re im ≠ l) : PpR l 0 0 false := by
  refine ⟨by simp, fun _ => ⟨rfl, rfl, fun x y hx hy e => ?_⟩⟩
  have hp := place_first x y l e k h1 hk hno hat
  subst hp
  obtain ⟨p1, p2⟩ := parts_of x y
  rw [e] at p1 p2
  obtain ⟨q1, q2⟩ := hf.2 x hx p1.symm
  obtain ⟨q3, q4⟩ := hg.2 y hy p2.symm
  subst q1; subst q3
  rcases hbad with h | h | h
  · rw [h] at q2; cases q2
  · rw [h] at q4; cases q4
  · exact h (by rw [pairTx_of _ _ hx hy, e])
theorem pp_no_place (l : List UInt8) (k : Nat) (h1 : 1 ≤ k) (hk : k = l.length) (hno : ∀ i (hi : i < l.length), 1 ≤ i → i < k → ¬IsSg l[i]) : PpR l 0 0 false := by
  refine ⟨by simp, fun _ => ⟨rfl, rfl, fun x y hx hy e => ?_⟩⟩
  have hp := place_first x y l e k h1 (by omega) hno (fun hi => by omega)
  have := pair_length x y
  rw [e] at this
  omega

/-- What is read of a whole number. -/
def PiR (t : List UInt8) (n : Int) (ok : Bool) : Prop := (ok = true → InQ n ∧ itoa n = t) ∧ (ok = false → n = 0 ∧ ∀ m, InQ m → itoa m ≠ t)
theorem PiR.range {t : List UInt8} {n : Int} {ok : Bool} (h : PiR t n ok) : InQ n := by
  cases ok
  · rw [(h.2 rfl).1]; exact ⟨by omega, by omega⟩
  · exact (h.1 rfl).1
theorem PiR.full {t : List UInt8} {n : Int} {ok : Bool} (h : PiR t n ok) (m : Int) (hm : InQ m) (e : itoa m = t) : n = m ∧ ok = true := by
  cases ok
  · exact ((h.2 rfl).2 m hm e).elim
  · exact ⟨itoa_inj ((h.1 rfl).2.trans e.symm), rfl⟩
theorem pi_yes (t : List UInt8) (n : Int) (hn : InQ n) (h : itoa n = t) : PiR t n true := ⟨fun _ => ⟨hn, h⟩, by simp⟩
theorem pi_minus_no (t : List UInt8) (r : Int) (ok : Bool) (h : PuR (t.drop 1) r ok) (hp : Lib.hasPrefix t [45] = true) (hbad : ok = false ∨ itoa (-r) ≠ t) : PiR t 0 false := by
  refine ⟨by simp, fun _ => ⟨rfl, fun m hm e => ?_⟩⟩
  have hm1 := hm.1; have hm2 := hm.2
  by_cases hn : m < 0
  · rw [itoa_abs, if_pos hn] at e
    subst e
    obtain ⟨a, b⟩ := h.full m.natAbs (by omega) rfl
    rcases hbad with g | g
    · rw [g] at a; cases a
    · apply g
      have : -r = m := by omega
      rw [this, itoa_abs, if_pos hn]
  · have f := figs_itoa m (by omega)
    rw [e] at f
    cases t with
    | nil => simp [Lib.hasPrefix] at hp
    | cons c t =>
      have := f c (by simp)
      simp [Lib.hasPrefix] at hp
      subst hp
      simp at this
theorem pi_plus_no (t : List UInt8) (r : Int) (ok : Bool) (h : PuR t r ok) (hp : Lib.hasPrefix t [45] = false) (hbad : ok = false ∨ itoa r ≠ t) : PiR t 0 false := by
  refine ⟨by simp, fun _ => ⟨rfl, fun m hm e => ?_⟩⟩
  have hm1 := hm.1; have hm2 := hm.2
  by_cases hn : m < 0
  · rw [itoa_abs, if_pos hn] at e
    subst e
    simp [Lib.hasPrefix] at hp
  · rw [itoa_abs, if_neg hn] at e
    obtain ⟨a, b⟩ := h.full m.natAbs (by omega) e
    rcases hbad with g | g
    · rw [g] at a; cases a
    · apply g
      have : r = m := by omega
      rw [this, itoa_abs, if_neg hn, e]

theorem trim_sgn (n : Int) : Lib.trimPrefix (sgn n) [43] = itoa n := by
  rw [sgn_abs, itoa_abs]
  by_cases h : n < 0
  · simp [h, Lib.trimPrefix, Lib.hasPrefix]
  · simp [h, Lib.trimPrefix, Lib.hasPrefix]

/-- What 'the place of the last sign' has to be. -/
def LaR (l : List UInt8) (k : Int) : Prop := (-1 ≤ k ∧ k < l.length) ∧ ∀ x y, InQ x → InQ y → sgn x ++ sgn y ++ [105] = l → k = (sgn x).length
theorem la_at (l : List UInt8) (k : Nat) (hk : k < l.length) (hat : IsSg l[k]) (hno : ∀ i (hi : i < l.length), k < i → ¬IsSg l[i]) : LaR l k :=
  ⟨by omega, fun x y _ _ e => by rw [place_last x y l e k hk hat hno]⟩
theorem la_none (l : List UInt8) (hno : ∀ i (hi : i < l.length), ¬IsSg l[i]) : LaR l (-1) :=
  ⟨by omega, fun x y _ _ e => (place_none x y l e hno).elim⟩

/-- The program's reading. -/
theorem pq_no (l : List UInt8) (k : Int) (hk : LaR l k) (re im : Int) (f g : Bool)
    (hf : PiR (Lib.trimPrefix (l.take k.toNat) [43]) re f) (hg : PiR (Lib.trimPrefix ((l.drop k.toNat).take (l.length - 1 - k.toNat)) [43]) im g) (hbad : f = false ∨ g = false ∨ pairTx re im ≠ l) : PpR l 0 0 false := by
  refine ⟨by simp, fun _ => ⟨rfl, rfl, fun x y hx hy e => ?_⟩⟩
  have hp := hk.2 x y hx hy e
  have hq : k.toNat = (sgn x).length := by omega
  rw [hq] at hf hg
  obtain ⟨p1, p2⟩ := parts_of x y
  rw [e] at p1 p2
  rw [p1, trim_sgn] at hf
  rw [p2, trim_sgn] at hg
  obtain ⟨q1, q2⟩ := hf.full x hx rfl
  obtain ⟨q3, q4⟩ := hg.full y hy rfl
  subst q1; subst q3
  rcases hbad with h | h | h
  · rw [h] at q2; cases q2
  · rw [h] at q4; cases q4
  · exact h (by rw [pairTx_of _ _ hx hy, e])
theorem pq_no_place (l : List UInt8) (k : Int) (hk : LaR l k) (h2 : k < 2) : PpR l 0 0 false := by
  refine ⟨by simp, fun _ => ⟨rfl, rfl, fun x y hx hy e => ?_⟩⟩
  have hp := hk.2 x y hx hy e
  have := sgn_two x
  omega
end Go.Proofs.YtldcciipicnooaaDoor
