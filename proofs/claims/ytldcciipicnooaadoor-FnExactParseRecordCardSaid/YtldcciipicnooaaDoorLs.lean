/-
  What is proved here: strings.LastIndexAny(s, "+-") at any s of 2 bytes or more (see LaR); what impl.ParsePair returns. Conditions: the decoder's two tables and the table of powers of ten are laid.
-/
import Derived.Test.YtldcciipicnooaaDoorLa
import Derived.Lib.TrimU
namespace Go.Proofs.YtldcciipicnooaaDoor
open Go.RowKit Go.Lib Go.Shelf
set_option maxRecDepth 100000
set_option linter.unusedVariables false
set_option linter.unusedSimpArgs false

theorem dec_last (l : List UInt8) (i : Nat) (h0 : 0 < i) (hi : i ≤ l.length) (ha : ∀ c ∈ l, c.toNat < 128) : decodeLastL (l.take i) = ((l[i - 1]'(by omega)).toNat, 1) := by
  have hlen : (l.take i).length = i := by simp; omega
  have hne : l.take i ≠ [] := by intro h; rw [h] at hlen; simp at hlen; omega
  have hg : (l.take i).getD (i - 1) 0 = l[i - 1]'(by omega) := by
    rw [List.getD_eq_getElem?_getD, List.getElem?_take, if_pos (by omega), List.getElem?_eq_getElem (by omega)]
    rfl
  unfold decodeLastL
  rw [if_neg hne, hlen, hg, if_pos (ha _ (List.getElem_mem _))]

theorem index_pm (x : UInt8) : 0 ≤ Lib.indexByte ([43, 45] : List UInt8) x ↔ (x.toNat = 43 ∨ x.toNat = 45) := by
  have h := Lib.contains_iff_indexByte [43, 45] x
  rw [← show IsSg x ↔ (x.toNat = 43 ∨ x.toNat = 45) from Iff.rfl, ← is_pm x, h]
  simp

theorem indexRune_pm (R : Nat) (h : R ≤ 1114111) (w : World) :
    Calls Tryd.prog 57 #[.string pmB, .int .i32 (R : Int)] w fun e w' => ∃ f : Int, e = .returned (.int .i64 f) ∧ (0 ≤ f ↔ (R = 43 ∨ R = 45)) ∧ Below w.heap.size w w' := by
  by_cases hlt : R < 128
  · refine (Tryd.strings_IndexRune_ascii pmB R w (by omega) (by omega)).mono ?_
    rintro e w' ⟨rfl, hw⟩
    subst hw
    refine ⟨_, rfl, ?_, Below.refl _ _⟩
    have e1 : ((R : Int).toNat.toUInt8).toNat = R := by simp; omega
    have := index_pm ((R : Int).toNat.toUInt8)
    rw [e1] at this
    exact this
  · refine (indexRune_far R (by omega) (by omega) w).mono ?_
    rintro e w' ⟨rfl, hb⟩
    exact ⟨-1, rfl, by omega, hb⟩

/-- The loop's relation. -/
def LsRel (l : List UInt8) (w : World) (v : Value) (wr : World) : Prop := ∃ i : Nat, v = .int .i64 i ∧ i ≤ l.length ∧ Past l i ∧ Below w.heap.size w wr

theorem ls_hit (l : List UInt8) (i R K : Nat) (h0 : 0 < i) (hi : i ≤ l.length) (hd : decodeLastL (l.take i) = (R, K)) (hK : 1 ≤ K ∧ K ≤ i) (hp : Past l i) (hf : R = 43 ∨ R = 45) : LaR l ((i : Int) - K) := by
  by_cases ha : ∀ c ∈ l, c.toNat < 128
  · rw [dec_last l i h0 hi ha] at hd
    obtain ⟨rfl, rfl⟩ := Prod.mk.inj hd
    have := la_hit l (i - 1) (by omega) (by rw [show (((i - 1 : Nat) : Int) + 1) = i by omega]; exact hp) (fun _ => hf)
    rwa [show (((i - 1 : Nat) : Int)) = (i : Int) - (1 : Nat) by omega] at this
  · exact ⟨by omega, fun x y _ _ e => (ha (pair_ascii x y l e)).elim⟩
theorem ls_round (l : List UInt8) (w wr : World) (i R K : Nat) (h0 : 0 < i) (hi : i ≤ l.length) (hd : decodeLastL (l.take i) = (R, K)) (hK : 1 ≤ K ∧ K ≤ i) (hp : Past l i) (hf : ¬(R = 43 ∨ R = 45)) (hb : Below w.heap.size w wr) :
    LsRel l w (.int .i64 ((i : Int) - K)) wr ∧ (RowKit.intOf (.int .i64 ((i : Int) - K))).toNat < (RowKit.intOf (.int .i64 (i : Int))).toNat := by
  refine ⟨⟨i - K, by rw [show (((i - K : Nat) : Int)) = (i : Int) - K by omega], by omega, ?_, hb⟩, by simp only [RowKit.intOf]; omega⟩
  intro ha j hj hij
  rw [dec_last l i h0 hi ha] at hd
  obtain ⟨rfl, rfl⟩ := Prod.mk.inj hd
  by_cases e : j = i - 1
  · subst e; exact hf
  · exact hp ha j hj (by omega)

theorem lastAny_short (l : List UInt8) (h2 : 2 ≤ l.length) (h8 : l.length ≤ 8) (w : World) (hT : U8 w) :
    Calls Tryd.prog 39 #[tx l, .string pmB] w (LaEnd l w) := by
  have c8 : decide ((8 : Int) < (l.length : Int)) = false := decide_eq_false (by omega)
  have c1 : ((l.length : Int) == 1) = false := beq_eq_false_iff_ne.2 (by omega)
  have HT := Lib.hid hT
  clear hT
  go_enter Tryd.func39, Tryd.ntmps39
  go_wp2_with (first | (go_at_call 58; (with_reducible refine (Tryd.strings_shouldUseASCIISet _ _).mono ?_); rintro e w9 ⟨rfl, hw9⟩; have hw9x := hw9.symm; clear hw9; subst hw9x))
  go_loopw [13] (fun v wr => LsRel l w v wr) (fun v _ => (RowKit.intOf v).toNat)
  case atStart => exact ⟨l.length, rfl, Nat.le_refl _, past_len l, Below.refl _ _⟩
  case round =>
    obtain ⟨i, rfl, hi, hpast, hb⟩ := hrel
    have HP := Lib.hid hpast
    have HB := Lib.hid hb
    clear hpast hb
    by_cases h0 : i = 0
    · subst h0
      have HE := Lib.hid (la_miss l HP.out)
      go_wp2
      go_ret
      exact ⟨-1, rfl, HE.out, HB.out⟩
    · obtain ⟨R, K, hd⟩ : ∃ R K, decodeLastL (l.take i) = (R, K) := ⟨_, _, rfl⟩
      have hk := decodeLastL_width (l.take i) (by simp; omega)
      have hr := decodeLastL_rune (l.take i)
      rw [hd] at hk hr
      have hlen : (l.take i).length = i := by simp; omega
      rw [hlen] at hk
      simp only at hk hr
      obtain ⟨hk1, hk2⟩ := hk
      have hi0 : 0 < i := by omega
      have HD := Lib.hid hd
      clear hd hlen
      have c0 : decide (0 < (i : Int)) = true := decide_eq_true (by omega)
      have hz : (l.length < i) = False := eq_false (by omega)
      go_wp2_with fail
      go_at_call 61
      rw [head_of]
      refine (Tryd.utf8_DecodeLastRuneInString ⟨(l.take i).toArray⟩ _ (by simp [ByteArray.size]; omega) (u8_on HT.out HB.out)).mono ?_
      rintro e w1 ⟨rfl, hb1⟩
      rw [List.toList_toArray, HD.out]
      have HB1 := Lib.hid (on_call HB.out hb1)
      clear hb1
      go_wp2_with fail
      go_at_call 57
      refine (indexRune_pm R hr _).mono ?_
      rintro e w2 ⟨f, rfl, hf, hb2⟩
      have HB2 := Lib.hid (on_call HB1.out hb2)
      clear hb2
      by_cases hfs : 0 ≤ f
      · have HE := Lib.hid (ls_hit l i R K hi0 hi HD.out ⟨hk1, hk2⟩ HP.out (hf.1 hfs))
        clear hf
        go_wp2
        go_ret
        exact ⟨_, rfl, HE.out, HB2.out⟩
      · have HR := Lib.hid (ls_round l w w2 i R K hi0 hi HD.out ⟨hk1, hk2⟩ HP.out (fun h => hfs (hf.2 h)) HB2.out)
        clear hf
        go_wp2
        case roundEnd => exact HR.out

theorem lastAny (l : List UInt8) (h2 : 2 ≤ l.length) (hl : l.length ≤ 4294967280) (w : World) (hT : U8 w) :
    Calls Tryd.prog 39 #[tx l, .string pmB] w (LaEnd l w) := by
  by_cases h8 : 8 < l.length
  · exact lastAny_long l h8 hl w
  · exact lastAny_short l h2 (by omega) w hT
end Go.Proofs.YtldcciipicnooaaDoor
