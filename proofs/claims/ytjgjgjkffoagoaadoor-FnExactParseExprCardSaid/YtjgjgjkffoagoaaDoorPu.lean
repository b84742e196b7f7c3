/-
  What is proved here: spec.ParseUint and impl.ParseUint: a text is read as the whole number from 0 to 1000000000 of which it is the numeral; another text as none. Condition of impl's: the table of powers of ten is laid.
-/
import Derived.Test.YtjgjgjkffoagoaaDoorFmtP
namespace Go.Proofs.YtjgjgjkffoagoaaDoor
open Go.RowKit
open Go.Lib (itoa decDigits nDigits nDigits_le20 itoa_length_le)
set_option maxRecDepth 100000
set_option linter.unusedVariables false
set_option linter.unusedSimpArgs false

/-- The value of a row of figures. -/
def dval (l : List UInt8) : Int := l.foldl (fun a b => 10 * a + b.toNat - 48) 0
/-- All are figures. -/
def figs (l : List UInt8) : Prop := ∀ c ∈ l, 48 ≤ c.toNat ∧ c.toNat ≤ 57

theorem dval_snoc (l : List UInt8) (b : UInt8) : dval (l ++ [b]) = 10 * dval l + b.toNat - 48 := by simp [dval]

theorem figs_decDigits (u : Nat) : figs (decDigits u) := by
  induction u using Nat.strongRecOn with
  | _ u ih =>
    intro c hc
    rw [decDigits] at hc
    by_cases hs : u < 10
    · rw [dif_pos hs] at hc
      simp only [List.mem_singleton] at hc
      subst hc
      rw [UInt8.toNat_ofNat']
      omega
    · rw [dif_neg hs] at hc
      rcases List.mem_append.1 hc with h | h
      · exact ih (u / 10) (by omega) c h
      · simp only [List.mem_singleton] at h
        subst h
        rw [UInt8.toNat_ofNat']
        omega

theorem dval_decDigits (u : Nat) : dval (decDigits u) = u := by
  induction u using Nat.strongRecOn with
  | _ u ih =>
    rw [decDigits]
    by_cases hs : u < 10
    · rw [dif_pos hs]
      simp only [dval, List.foldl_cons, List.foldl_nil, UInt8.toNat_ofNat']
      omega
    · rw [dif_neg hs, dval_snoc, ih (u / 10) (by omega), UInt8.toNat_ofNat']
      omega

theorem itoa_nat (n : Int) (h : 0 ≤ n) : itoa n = decDigits n.toNat := by unfold itoa; rw [if_neg (by omega)]
theorem figs_itoa (n : Int) (h : 0 ≤ n) : figs (itoa n) := by rw [itoa_nat n h]; exact figs_decDigits _
theorem dval_itoa (n : Int) (h : 0 ≤ n) : dval (itoa n) = n := by rw [itoa_nat n h, dval_decDigits]; omega
theorem len_itoa (n : Int) (h : 0 ≤ n) (h1 : n ≤ 1000000000) : 1 ≤ (itoa n).length ∧ (itoa n).length ≤ 10 := by
  rw [itoa_nat n h, Lib.decDigits_length]
  refine ⟨Lib.nDigits_pos _, ?_⟩
  by_cases hz : n.toNat = 0
  · rw [hz, Lib.nDigits_small (by omega)]; omega
  · have hp := Lib.nDigits_pos n.toNat
    rcases Nat.lt_or_ge 10 (nDigits n.toNat) with hlt | hge
    · exfalso
      have : ∀ k u : Nat, k < nDigits u → 10 ^ k ≤ u ∨ k = 0 := by
        intro k
        induction k with
        | zero => intro u _; exact Or.inr rfl
        | succ k ih =>
          intro u hu
          left
          by_cases hs : u < 10
          · rw [Lib.nDigits_small hs] at hu; omega
          · rw [Lib.nDigits_big hs] at hu
            rcases ih (u / 10) (by omega) with h | h
            · rw [Nat.pow_succ]; omega
            · subst h; simp; omega
      rcases this 10 n.toNat hlt with h | h
      · omega
      · omega
    · exact hge

/-- What reading a text as a whole number gives. -/
def PuR (l : List UInt8) (r : Int) (ok : Bool) : Prop :=
  (ok = true → 0 ≤ r ∧ r ≤ 1000000000 ∧ itoa r = l) ∧ (ok = false → r = 0 ∧ ∀ n : Int, 0 ≤ n → n ≤ 1000000000 → itoa n ≠ l)

theorem pu_long (l : List UInt8) (h : 10 < l.length) : PuR l 0 false := by
  refine ⟨by simp, fun _ => ⟨rfl, fun n h0 h1 e => ?_⟩⟩
  have := (len_itoa n h0 h1).2
  rw [e] at this
  omega
theorem pu_none (l : List UInt8) (h : l.length = 0) : PuR l 0 false := by
  refine ⟨by simp, fun _ => ⟨rfl, fun n h0 h1 e => ?_⟩⟩
  have := (len_itoa n h0 h1).1
  rw [e] at this
  omega
theorem pu_strange (l : List UInt8) (i : Nat) (h : i < l.length) (hb : l[i].toNat < 48 ∨ 57 < l[i].toNat) : PuR l 0 false := by
  refine ⟨by simp, fun _ => ⟨rfl, fun n h0 h1 e => ?_⟩⟩
  have := figs_itoa n h0 l[i] (by rw [e]; exact List.getElem_mem h)
  omega
theorem pu_great (l : List UInt8) (h : 1000000000 < dval l) : PuR l 0 false := by
  refine ⟨by simp, fun _ => ⟨rfl, fun n h0 h1 e => ?_⟩⟩
  have := dval_itoa n h0
  rw [e] at this
  omega
theorem pu_other (l : List UInt8) (h : itoa (dval l) ≠ l) : PuR l 0 false := by
  refine ⟨by simp, fun _ => ⟨rfl, fun n h0 h1 e => ?_⟩⟩
  have := dval_itoa n h0
  rw [e] at this
  rw [this] at h
  exact h e
theorem pu_one (l : List UInt8) (h0 : 0 ≤ dval l) (h1 : dval l ≤ 1000000000) (h : itoa (dval l) = l) : PuR l (dval l) true := ⟨fun _ => ⟨h0, h1, h⟩, by simp⟩

/-- The loop's relation. -/
def PuRel (l : List UInt8) (w : World) (n i : Value) (wr : World) : Prop :=
  ∃ k : Nat, k ≤ l.length ∧ i = .int .i64 k ∧ n = .int .i64 (dval (l.take k)) ∧ 0 ≤ dval (l.take k) ∧ dval (l.take k) < 10 ^ k ∧ wr = w


/-- What a call of ParseUint ends with. -/
def PuEnd (l : List UInt8) (w : World) (e : Ending) (w' : World) : Prop :=
  ∃ r ok, e = .returned (.tuple #[.int .i64 r, .bool ok]) ∧ PuR l r ok ∧ Below w.heap.size w w'

theorem pu_round (l : List UInt8) (w : World) (k x : Nat) (d : Int) (hlt : k < l.length) (hx : l[k].toNat = x) (hd : dval (l.take k) = d) (h0 : 0 ≤ d) (h1 : d < 10 ^ k) (h48 : 48 ≤ x) (h57 : x ≤ 57) :
    PuRel l w (.int .i64 (10 * d + x - 48)) (.int .i64 ((k : Int) + 1)) w ∧ l.length - ((k : Int) + 1).toNat < l.length - (k : Int).toNat := by
  have e : dval (l.take (k + 1)) = 10 * d + x - 48 := by rw [List.take_succ_eq_append_getElem hlt, dval_snoc, hd, hx]
  refine ⟨⟨k + 1, by omega, by simp, by rw [e], by rw [e]; omega, ?_, rfl⟩, by omega⟩
  rw [e, Int.pow_succ]
  omega

theorem spec_ParseUint (l : List UInt8) (hl : l.length ≤ 9223372036854775807) (w : World) :
    Calls Tryd.prog 122 #[tx l] w (PuEnd l w) := by
  by_cases hlong : 10 < l.length
  · have c0 : decide (10 < (l.length : Int)) = true := decide_eq_true (by omega)
    go_enter Tryd.func122, Tryd.ntmps122
    go_wp2
    refine bodyPost_ret (v := .tuple #[.int .i64 0, .bool false]) (by simp [results, Tryd.results122, go_sem]) rfl ⟨0, false, rfl, pu_long l hlong, Below.refl _ _⟩
  have c0 : decide (10 < (l.length : Int)) = false := decide_eq_false (by omega)
  go_enter Tryd.func122, Tryd.ntmps122
  go_wp2
  go_loopw [4, 5] (fun n i wr => PuRel l w n i wr) (fun _ i _ => l.length - (RowKit.intOf i).toNat)
  case atStart => exact ⟨0, Nat.zero_le _, rfl, rfl, by simp [dval], by simp [dval], rfl⟩
  case round =>
    obtain ⟨k, hk, rfl, rfl, hd0, hd1, rfl⟩ := hrel
    have hk10 : dval (l.take k) < 10000000000 := by
      have h10 : k = 0 ∨ k = 1 ∨ k = 2 ∨ k = 3 ∨ k = 4 ∨ k = 5 ∨ k = 6 ∨ k = 7 ∨ k = 8 ∨ k = 9 ∨ k = 10 := by omega
      rcases h10 with h | h | h | h | h | h | h | h | h | h | h <;> (subst h; omega)
    by_cases hlt : k < l.length
    · have cl : decide ((k : Int) < (l.length : Int)) = true := decide_eq_true (by omega)
      have hsz : k < (⟨l.toArray⟩ : ByteArray).size := by simpa [ByteArray.size] using hlt
      obtain ⟨x, hx⟩ : ∃ x : Nat, ((⟨l.toArray⟩ : ByteArray)[k]'hsz).toNat = x := ⟨_, rfl⟩
      have hx256 : x < 256 := by rw [← hx]; exact UInt8.toNat_lt _
      have HX : Hid (l[k].toNat = x) := Lib.hid (by rw [← hx]; rfl)
      obtain ⟨d, hd⟩ : ∃ d, dval (l.take k) = d := ⟨_, rfl⟩
      rw [hd] at hd0 hd1 hk10
      have HD := Lib.hid hd
      by_cases h48 : x < 48
      · have c1 : decide ((x : Int) < 48) = true := decide_eq_true (by omega)
        have HE : Hid (PuR l 0 false) := Lib.hid (pu_strange l k hlt (Or.inl (by rw [HX.out]; exact h48)))
        go_wp2
        refine bodyPost_ret (v := .tuple #[.int .i64 0, .bool false]) (by simp [results, Tryd.results122, go_sem]) rfl ⟨0, false, rfl, HE.out, Below.refl _ _⟩
      · have c1 : decide ((x : Int) < 48) = false := decide_eq_false (by omega)
        by_cases h57 : 57 < x
        · have c2 : decide (57 < (x : Int)) = true := decide_eq_true (by omega)
          have HE : Hid (PuR l 0 false) := Lib.hid (pu_strange l k hlt (Or.inr (by rw [HX.out]; exact h57)))
          go_wp2
          refine bodyPost_ret (v := .tuple #[.int .i64 0, .bool false]) (by simp [results, Tryd.results122, go_sem]) rfl ⟨0, false, rfl, HE.out, Below.refl _ _⟩
        · have c2 : decide (57 < (x : Int)) = false := decide_eq_false (by omega)
          have HR : Hid (PuRel l wr (.int .i64 (10 * d + x - 48)) (.int .i64 ((k : Int) + 1)) wr ∧ l.length - ((k : Int) + 1).toNat < l.length - (k : Int).toNat) := Lib.hid (pu_round l wr k x d hlt HX.out HD.out hd0 hd1 (by omega) (by omega))
          go_wp2
          case roundEnd => exact HR.out
    · have cl : decide ((k : Int) < (l.length : Int)) = false := decide_eq_false (by omega)
      obtain rfl : k = l.length := by omega
      rw [List.take_length] at hd0 hd1 hk10 ⊢
      obtain ⟨d, hd⟩ : ∃ d, dval l = d := ⟨_, rfl⟩
      rw [hd] at hd0 hd1 hk10 ⊢
      have HD := Lib.hid hd
      clear hd
      by_cases hgr : 1000000000 < d
      · have c1 : decide (1000000000 < d) = true := decide_eq_true hgr
        have HE : Hid (PuR l 0 false) := Lib.hid (pu_great l (by rw [HD.out]; exact hgr))
        go_wp2
        refine bodyPost_ret (v := .tuple #[.int .i64 0, .bool false]) (by simp [results, Tryd.results122, go_sem]) rfl ⟨0, false, rfl, HE.out, Below.refl _ _⟩
      · have c1 : decide (1000000000 < d) = false := decide_eq_false hgr
        have hit := itoa_length_le d (by omega) (by omega)
        by_cases hsame : itoa d = l
        · have HE : Hid (PuR l d true) := Lib.hid (by have := pu_one l (by rw [HD.out]; omega) (by rw [HD.out]; omega) (by rw [HD.out]; exact hsame); rwa [HD.out] at this)
          have c2 : (itoa d == l) = true := beq_iff_eq.2 hsame
          clear hsame
          go_wp2_with (first | (go_at_call 127; (with_reducible refine (specFormatInt d (by omega) (by omega) _).mono ?_); rintro e w1 ⟨rfl, hb1⟩))
          refine bodyPost_ret (v := .tuple #[.int .i64 d, .bool true]) (by simp [results, Tryd.results122, go_sem]) rfl ⟨d, true, rfl, HE.out, hb1⟩
        · have HE : Hid (PuR l 0 false) := Lib.hid (pu_other l (by rw [HD.out]; exact hsame))
          have c2 : (itoa d == l) = false := beq_eq_false_iff_ne.2 hsame
          clear hsame
          go_wp2_with (first | (go_at_call 127; (with_reducible refine (specFormatInt d (by omega) (by omega) _).mono ?_); rintro e w1 ⟨rfl, hb1⟩))
          refine bodyPost_ret (v := .tuple #[.int .i64 0, .bool false]) (by simp [results, Tryd.results122, go_sem]) rfl ⟨0, false, rfl, HE.out, hb1⟩
end Go.Proofs.YtjgjgjkffoagoaaDoor
