/- For every input laws.FnPairText returns true: the text of a pair of whole numbers, each with its sign, is read as this pair. Condition: the listed tables read as the program's text lays them (the card ties them). -/
import Derived.Test.YtldcciipicnooaaDoorLaid
import Derived.Test.YtldcciipicnooaaDoorPt
import Derived.Test.YtldcciipicnooaaDoorDrawP
import Derived.Test.YtldcciipicnooaaDoorCards
import Derived.Test.YtldcciipicnooaaDoorTie
import Derived.OpenShut
import Derived.ShutString
import Derived.ChangeOld
import Derived.SevenTiedAt
namespace Go.Proofs.YtldcciipicnooaaDoor.fnPairText
open Go.ChangeShapes Go.WideShapes Go.ChangeAt Go.RowKit Go.Joins

theorem own : ownKnob Tryd.prog.godebug = none := by kernel_rfl
theorem laidOut : laidOutB Tryd.prog = true := by kernel_rfl

/-- A pair's text is read as this pair. -/
theorem read_back {re im a b : Int} {ok : Bool} (hr : InQ re) (hi : InQ im) (h : PpR (pairTx re im) a b ok) : a = re ∧ b = im ∧ ok = true := by
  rw [pairTx_of re im hr hi] at h
  cases ok
  · exact ((h.2 rfl).2.2 re im hr hi rfl).elim
  · obtain ⟨_, _, e⟩ := h.1 rfl
    obtain ⟨e1, e2⟩ := pair_inj e
    exact ⟨e1, e2, rfl⟩
theorem read_none {a b : Int} {ok : Bool} (h : PpR [] a b ok) : ok = false := by
  cases ok
  · rfl
  · obtain ⟨_, _, e⟩ := h.1 rfl
    have := congrArg List.length e
    simp at this

set_option maxRecDepth 100000 in
theorem walk (A : Option Addr) (len cap : Nat) (w : World) (hlen : len ≤ maxLen) (hrow : RowOk w.heap.size w A len) (htab : Lib.TabIs Tryd.prog w "internal/strconv.uint64pow10" .u64 Lib.pow10Tab) (hT : U8 w) :
    Calls Tryd.prog 5 #[.slice A len cap] w fun en w' => en = .returned (.bool true) ∧ Below w.heap.size w w' := by
  have HT := Lib.hid hT
  clear hT
  by_cases hbig : (1048576 : Int) < (len : Int)
  · go_enter Tryd.func5, Tryd.ntmps5
    go_wp2_with (go_at_call 14; (with_reducible refine (big_any _ _ _ _).mono ?_); rintro en w9 ⟨rfl, hw9⟩; have hw9x := hw9.symm; clear hw9; subst hw9x)
    go_ret
    exact ⟨rfl, Below.refl _ _⟩
  go_enter Tryd.func5, Tryd.ntmps5
  go_wp2_with (go_at_call 14; (with_reducible refine (big_any _ _ _ _).mono ?_); rintro en w9 ⟨rfl, hw9⟩; have hw9x := hw9.symm; clear hw9; subst hw9x)
  go_at_call 15
  refine (drawPair_any A len cap _ hlen hrow).mono ?_
  rintro e w1 ⟨re, im, ⟨hr0, hr1⟩, ⟨hi0, hi1⟩, rfl, hb1⟩
  have HB1 := Lib.hid hb1
  clear hb1
  go_wp2_with fail
  go_at_call 13
  refine (impl_FormatPair re im (by omega) (by omega) (by omega) (by omega) _ (tab_on htab HB1.out)).mono ?_
  rintro e w2 ⟨rfl, hb2⟩
  have HB2 := Lib.hid (on_call HB1.out hb2)
  clear hb2
  have hlen45 := pairTx_length re im (by omega) (by omega) (by omega) (by omega)
  go_wp2_with fail
  go_at_call 16
  refine (impl_ParsePair (pairTx re im) (by omega) _ (tab_on htab HB2.out) (u8_on HT.out HB2.out)).mono ?_
  rintro e w3 ⟨a, b, ok, rfl, hpp, hb3⟩
  have HB3 := Lib.hid (on_call HB2.out hb3)
  clear hb3
  by_cases hin : InQ re ∧ InQ im
  · obtain ⟨rfl, rfl, rfl⟩ := read_back hin.1 hin.2 hpp
    have hne : pairTx a b ≠ [] := by
      rw [pairTx_of a b hin.1 hin.2]; simp
    clear hpp
    have c1 : decide (a ≤ 1000000000) = true := decide_eq_true hin.1.2
    have c2 : decide (-1000000000 ≤ a) = true := decide_eq_true hin.1.1
    have c3 : decide (b ≤ 1000000000) = true := decide_eq_true hin.2.2
    have c4 : decide (-1000000000 ≤ b) = true := decide_eq_true hin.2.1
    have hemp : (pairTx a b).isEmpty = false := by
      cases h : pairTx a b with
      | nil => exact absurd h hne
      | cons c l => rfl
    clear hne
    go_wp2
    go_ret
    exact ⟨by first | rfl | (simp; done), HB3.out⟩
  · have hL : pairTx re im = [] := by
      unfold pairTx
      exact if_neg hin
    rw [hL] at hpp
    obtain rfl := read_none hpp
    clear hpp
    have hout : (1000000000 < re ∨ re < -1000000000) ∨ (1000000000 < im ∨ im < -1000000000) := by unfold InQ at hin; omega
    clear hin
    by_cases q1 : re ≤ 1000000000
    · have c1 : decide (re ≤ 1000000000) = true := decide_eq_true q1
      by_cases q2 : -1000000000 ≤ re
      · have c2 : decide (-1000000000 ≤ re) = true := decide_eq_true q2
        by_cases q3 : im ≤ 1000000000
        · have c3 : decide (im ≤ 1000000000) = true := decide_eq_true q3
          have c4 : decide (-1000000000 ≤ im) = false := decide_eq_false (by omega)
          clear hout q1 q2 q3
          go_wp2
          go_ret
          exact ⟨by first | rfl | (simp; done), HB3.out⟩
        · have c3 : decide (im ≤ 1000000000) = false := decide_eq_false q3
          clear hout q1 q2 q3
          go_wp2
          go_ret
          exact ⟨by first | rfl | (simp; done), HB3.out⟩
      · have c2 : decide (-1000000000 ≤ re) = false := decide_eq_false q2
        clear hout q1 q2
        go_wp2
        go_ret
        exact ⟨by first | rfl | (simp; done), HB3.out⟩
    · have c1 : decide (re ≤ 1000000000) = false := decide_eq_false q1
      clear hout q1
      go_wp2
      go_ret
      exact ⟨by first | rfl | (simp; done), HB3.out⟩

set_option maxRecDepth 100000 in
theorem lifted (os : Os) (started : os.Started) (H : Type) (enc : TypeId × Value → H) :
    ReturnsInHanded {} Tryd.checked os 5 .any (fun w args => (Rows.fnPairTextSpec.pre enc Tryd.prog Tryd.f5 [] false w args ∧ laidMetH Tryd.prog laid.laid5 w) ∧ sizedMet enc Tryd.prog Tryd.f5 (OpenSpec.ofChange Rows.fnPairTextSpec) false w args)
      (Rows.fnPairTextSpec.post enc Tryd.prog Tryd.f5 false true false false) := by
  refine returnsInHanded_of_change_and (C := Tryd.checked) (X := fun w _ => laidMetH Tryd.prog laid.laid5 w) (fun _ _ _ hh h => h.of_heap hh) own started (by kernel_rfl) Tryd.func5
    (ChangeSpec.witness_shaped (enc := enc) (C := Tryd.checked) (os := os) (X := fun w _ => laidMetH Tryd.prog laid.laid5 w) false (World.laidAll Tryd.prog os laid.laid5) #[.slice none 0 0] 8 (World.laidAll_os _ _ _) (World.shaped_of_ZipB (by kernel_rfl) (by kernel_rfl)) (by kernel_rfl) (by kernel_rfl) (by kernel_rfl) (laid.laid_met os _)) ?_
  intro W base args ds gs before hval0 hW _ _ hL _
  have hval : ∀ (j : Nat) t v, Tryd.f5.params[j]? = some t → args[j]? = some v → Value.okWide Tryd.prog W .any base t v := hval0
  have hW' := hW
  obtain ⟨p, q, hA0, hV, rfl, hfz, hnd⟩ := hW
  have hA : DataW.TrodAll enc Tryd.prog W 0 (fun _ => true) true Tryd.f5.params.toList args.toList ds p := hA0
  rw [Tryd.params5] at hA hval
  obtain ⟨v0, d0, rfl, rfl, h0⟩ := trodAll_one hA
  obtain ⟨rfl, rfl⟩ := trodVars_none hV
  obtain ⟨a0, len0, cap0, rfl⟩ := okWide_slice Tryd.underlying30 (hval 0 30 v0 rfl rfl)
  have k0 := h0
  have lt0 : ∀ x ∈ p, x.block < W.heap.size := by obtain ⟨m, hm⟩ := k0; exact DataW.trod_lt m _ _ _ hm
  obtain ⟨hl, hr⟩ : len0 ≤ maxLen ∧ RowOk W.heap.size W a0 len0 := by
    obtain ⟨fuel, hf⟩ := h0
    rcases open_ints Tryd.underlying30 Tryd.underlying5 (by kernel_rfl) hf with ⟨hcs, _⟩ | ⟨x, l, c, zs, hcs, _, hl, hm, hz, _, hcell, hwz⟩
    · simp [Value.cells] at hcs
      obtain ⟨rfl, rfl, rfl⟩ := hcs
      exact row_of (zs := []) (.inl ⟨rfl, rfl, rfl, rfl⟩)
    · simp [Value.cells] at hcs
      obtain ⟨rfl, rfl, rfl⟩ := hcs
      exact row_of (.inr ⟨_, rfl, hl, hm, by simpa using hz, hcell, hwz⟩)
  have htab := laid.pow_of_laid hL
  have hu8 := laid.u8_of_laid hL
  clear hA0 hval0
  refine (walk a0 len0 cap0 W hl hr htab hu8).mono fun e W' ⟨he, bel⟩ => ?_
  subst he
  exact ⟨_, rfl, _, _, _, [], _, [], hW', trodAll_mk1 (shut_bool Tryd.underlying4 _), trodAll_cons_mk (Below.trod laidOut (by kernel_rfl) (of_decide_eq_true (by kernel_rfl)) k0 bel lt0) trodAll_mk0, rfl, bel.frame _, fun h => by cases h⟩

theorem said : Rows.FnPairTextSaid :=
  OpenClaim.holds_of_wide 5 Tryd.f5 rfl rfl rfl rfl rfl rfl rfl ⟨rfl, rfl, rfl, rfl, rfl⟩ rfl rfl rfl rfl rfl (by kernel_rfl) Tryd.func5 (by kernel_rfl)
    (of_decide_eq_true (by kernel_rfl)) (by unfold Func.isWrapper; first | (rw [if_pos (by decide +kernel)]; kernel_rfl) | (rw [if_neg (by decide +kernel)]; exact ⟨rfl, rfl⟩))
    (fun os started H enc _ => lifted os started H enc)

theorem proved : Rows.FnPairTextCardSaid :=
  Claim7.holds_tied_plain_at .later [] [.data, .data, .data, .data, .pinned] true (true, "97ed2b1690610662391de5d6800d2b76d08e465bb64d4d8b824b3a0e4ce281c6") false
    said (fun _ h => by cases h) (by kernel_rfl) (fun _ h => by cases h) fnPairText_row_tie rfl ⟨rfl, rfl⟩ (by kernel_rfl) rfl
    (fun f fn hf hfn => by
      obtain rfl : f = 5 := Option.some.inj ((show Tryd.prog.funcNamed "loop.example/g03320/laws.FnPairText" = some 5 by kernel_rfl).symm.trans hf) |>.symm
      obtain rfl : fn = Tryd.f5 := (Option.some.inj (Tryd.func5.symm.trans hfn)).symm
      exact ⟨by kernel_rfl, fun j t ht => by
        rw [Tryd.params5] at ht
        have hm : t ∈ [30] := by simpa using Array.mem_of_getElem? ht
        have hall : ([30].all fun u => !Tryd.prog.wantsStandIn u) = true := by kernel_rfl
        exact (show Tryd.prog.wantsStandIn t = false by simpa using List.all_eq_true.1 hall t hm)⟩)
    (by kernel_rfl)
#print axioms proved
end Go.Proofs.YtldcciipicnooaaDoor.fnPairText
