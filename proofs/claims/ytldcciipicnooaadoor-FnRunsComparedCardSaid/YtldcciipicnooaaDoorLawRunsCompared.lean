/- For every input laws.FnRunsCompared returns true: runs of one length whose numbers all have texts differ exactly at the places at which the texts do. Condition: the listed tables read as the program's text lays them (the card ties them). -/
import Derived.Test.YtldcciipicnooaaDoorCmp
import Derived.Test.YtldcciipicnooaaDoorDrawE
import Derived.Test.YtldcciipicnooaaDoorRows
import Derived.Test.YtldcciipicnooaaDoorCards
import Derived.Test.YtldcciipicnooaaDoorTie
import Derived.ProofKit
import Derived.LaidMore
import Derived.LaidLaws
import Derived.OpenShut
import Derived.ShutString
import Derived.ChangeOld
import Derived.SevenTiedAt
import Derived.Lib.SmallJoins
import Derived.Lib.LaidTab
import Derived.Stop.LaidErr
import Derived.MakeChecks
namespace Go.Proofs.YtldcciipicnooaaDoor.fnRunsCompared
open Go.ChangeShapes Go.WideShapes Go.ChangeAt Go.RowKit Go.Joins

theorem own : ownKnob Tryd.prog.godebug = none := by kernel_rfl
theorem laidOut : laidOutB Tryd.prog = true := by kernel_rfl

theorem row_in {W : World} {v : Value} {n g : Nat} (h : CRow W v n g) : ∃ (cap : Nat) (l : List (Nat × Nat)), v = .slice (some ⟨g, 0, none⟩) l.length cap ∧ l.length = n ∧ CIn W g l := by
  have hlt := h.lt
  obtain ⟨cap, l, rfl, rfl, hown⟩ := h
  exact ⟨cap, l, rfl, rfl, hlt, fun j hj => by rw [hown.cellAt j (by omega)]; simp [hj]⟩
theorem row_any {W : World} {base n : Nat} {e : TypeId} {v : Value} {xs : List Value} (h : W.ownsRow base e 1 v n xs) : ∃ a c, v = .slice a n c := by
  rcases h.2 with ⟨h1, h2⟩ | ⟨g, cap, cur, h1, _⟩
  · exact ⟨none, 0, by rw [h1, h2]⟩
  · exact ⟨_, cap, h1⟩
theorem row_some {W : World} {base n : Nat} {e : TypeId} {a : Option Addr} {c : Nat} {xs : List Value} (h : W.ownsRow base e 1 (.slice a n c) n xs) (hn : 0 < n) : ∃ g, a = some ⟨g, 0, none⟩ ∧ g < W.heap.size ∧ ∀ j, j < n → W.cell? ⟨g, j, none⟩ = xs[j]? := by
  rcases h.2 with ⟨_, h2⟩ | ⟨g, cap, cur, h1, h2, h3, h4⟩
  · omega
  · obtain ⟨rfl, _, rfl⟩ := Value.slice.inj h1
    exact ⟨g, rfl, (Array.getElem?_eq_some_iff.1 h3).1, fun j hj => h.cellAt j (by omega)⟩

theorem rc_keep {wr W : World} {gs gt i : Nat} {v1 v2 : Value} (h1 : wr.cell? ⟨gs, i, none⟩ = some v1) (h2 : wr.cell? ⟨gt, i, none⟩ = some v2) (h : Below wr.heap.size wr W) : (Below wr.heap.size wr W ∧ W.cell? ⟨gs, i, none⟩ = some v1 ∧ W.cell? ⟨gt, i, none⟩ = some v2) :=
  ⟨h, (h.cell (World.block_lt_of_cell? _ _ h1)).trans h1, (h.cell (World.block_lt_of_cell? _ _ h2)).trans h2⟩

/-- A place is told exactly where the texts differ. -/
theorem told {la lb : List (Nat × Nat)} {U : Nat × Bool} (hl : la.length = lb.length) (ha : ∀ z ∈ la, (pairF z U).2.2 = true) (hb : ∀ z ∈ lb, (pairF z U).2.2 = true) (i : Nat) (h1 : i < la.length) (h2 : i < lb.length) :
    decide (i ∈ places la lb U (max la.length lb.length)) = !(ptx U la[i] == ptx U lb[i]) := by
  have e1 : (i ∈ places la lb U (max la.length lb.length)) ↔ differ la lb U i = true := by
    unfold places
    rw [List.mem_filter, List.mem_range]
    exact ⟨fun h => h.2, fun h => ⟨by omega, h⟩⟩
  have e2 := differ_eq (U := U) h1 h2 rfl
  obtain ⟨p, q, ok, hp⟩ : ∃ p q ok, pairF la[i] U = (p, q, ok) := ⟨_, _, _, rfl⟩
  obtain ⟨p', q', ok', hp'⟩ : ∃ p q ok, pairF lb[i] U = (p, q, ok) := ⟨_, _, _, rfl⟩
  have o1 := ha la[i] (List.getElem_mem h1)
  have o2 := hb lb[i] (List.getElem_mem h2)
  rw [hp] at o1
  rw [hp'] at o2
  simp only at o1 o2
  subst o1
  subst o2
  obtain ⟨hq1, hq2⟩ := pair_inq hp
  obtain ⟨hq3, hq4⟩ := pair_inq hp'
  have e3 : eqF (la[i].1, la[i].2) (lb[i].1, lb[i].2) U = (p == p' && q == q') := by
    have a1 : pairF (la[i].1, la[i].2) U = (p, q, true) := hp
    have a2 : pairF (lb[i].1, lb[i].2) U = (p', q', true) := hp'
    unfold eqF
    rw [a1, a2]
    simp
  rw [e3] at e2
  have e4 : (ptx U la[i] == ptx U lb[i]) = (p == p' && q == q') := by
    unfold ptx
    rw [hp, hp']
    simp only
    rw [pairTx_of p q hq1 hq2, pairTx_of p' q' hq3 hq4]
    by_cases hs : p = p' ∧ q = q'
    · obtain ⟨rfl, rfl⟩ := hs
      simp
    · have hne : ¬ (sgn p ++ sgn q ++ [105] = sgn p' ++ sgn q' ++ [105]) := fun h => hs (pair_inj h)
      rw [beq_eq_false_iff_ne.2 hne]
      symm
      rw [Bool.and_eq_false_iff]
      by_cases hpp : p = p'
      · right; exact beq_eq_false_iff_ne.2 (fun h => hs ⟨hpp, h⟩)
      · left; exact beq_eq_false_iff_ne.2 hpp
  rw [e4, ← e2]
  cases hd : differ la lb U i
  · exact decide_eq_false (by rw [e1, hd]; simp)
  · exact decide_eq_true (by rw [e1, hd])

set_option maxRecDepth 100000 in
set_option maxHeartbeats 4000000 in
theorem walk (A : Option Addr) (len cap : Nat) (w : World) (hlen : len ≤ maxLen) (hrow : RowOk w.heap.size w A len) (htab : Lib.TabIs Tryd.prog w "internal/strconv.uint64pow10" .u64 Lib.pow10Tab) :
    Calls Tryd.prog 6 #[.slice A len cap] w fun en w' => en = .returned (.bool true) ∧ Below w.heap.size w w' := by
  by_cases hbig : (1048576 : Int) < (len : Int)
  · go_enter Tryd.func6, Tryd.ntmps6
    go_wp2_with (go_at_call 14; (with_reducible refine (big_any _ _ _ _).mono ?_); rintro en w9 ⟨rfl, hw9⟩; have hw9x := hw9.symm; clear hw9; subst hw9x)
    go_ret
    exact ⟨rfl, Below.refl _ _⟩
  go_enter Tryd.func6, Tryd.ntmps6
  go_wp2_with (go_at_call 14; (with_reducible refine (big_any _ _ _ _).mono ?_); rintro en w9 ⟨rfl, hw9⟩; have hw9x := hw9.symm; clear hw9; subst hw9x)
  go_at_call 17
  refine (drawRuns_any A len cap _ hlen hrow).mono ?_
  rintro e w1 ⟨va, na, ga, vb, nb, gb, s, m, x, rfl, hra, hrb, hna, hnb, hb1⟩
  obtain ⟨capa, la, rfl, hla, hca⟩ := row_in hra
  obtain ⟨capb, lb, rfl, hlb, hcb⟩ := row_in hrb
  obtain ⟨U, hU⟩ : ∃ U, unitF s.toList m x = U := ⟨_, rfl⟩
  have HB1 := Lib.hid hb1
  have HCA := Lib.hid hca
  have HCB := Lib.hid hcb
  have HU := Lib.hid hU
  have hna2 : la.length ≤ 61 := by omega
  have hnb2 : lb.length ≤ 6 := by omega
  clear hra hrb hb1 hca hcb hU hla hlb hna hnb
  unfold unitB
  have hbx : Below w1.heap.size w1 (boxU w1 s m x) := bl_alloc (Below.refl _ _) _
  have HBX := Lib.hid hbx
  clear hbx
  go_wp2_with fail
  go_at_call 18
  refine (impl_CompareRuns la lb ga capa gb capb s m x _ (by omega) (by omega) (HCA.out.below HBX.out) (HCB.out.below HBX.out)).mono ?_
  rintro e w2 ⟨vp, ps, rfl, hb2, hown, hps, hp0, hp1⟩
  rw [HU.out] at hp0 hp1
  obtain ⟨ap, cp, rfl⟩ := row_any hown
  have HP0 := Lib.hid hp0
  have HP1 := Lib.hid hp1
  have HQ2 := Lib.hid hb2
  have HOP := Lib.hid hown
  have HCA2 := Lib.hid ((HCA.out.below HBX.out).below hb2)
  have HCB2 := Lib.hid ((HCB.out.below HBX.out).below hb2)
  have HW2 := Lib.hid (bl_call HB1.out (from_box hb2))
  obtain ⟨q0, q1, q2, hz⟩ := box_keep hb2
  clear hb2 hown hp0 hp1
  go_wp2_with fail
  go_at_call 19
  refine (impl_RunText la ga capa s m x _ (by omega) HCA2.out (tab_on htab HW2.out)).mono ?_
  rintro e w3 ⟨vs, o1, rfl, hb3, ⟨ns, hos, hns⟩, hok1⟩
  rw [HU.out] at hos hok1
  have HQ3 := Lib.hid (bl_call HQ2.out hb3)
  have HOP3 := Lib.hid (own_below HOP.out hb3)
  have HOS := Lib.hid hos
  have HNS := Lib.hid hns
  have HK1 := Lib.hid hok1
  have HCB3 := Lib.hid (HCB2.out.below hb3)
  have HW3 := Lib.hid (bl_call HW2.out hb3)
  clear q0 q1 q2 hz hb3 hos hns hok1
  obtain ⟨q0, q1, q2, hz⟩ := box_keep HQ3.out
  go_wp2_with fail
  go_at_call 19
  refine (impl_RunText lb gb capb s m x _ (by omega) HCB3.out (tab_on htab HW3.out)).mono ?_
  rintro e w4 ⟨vt, o2, rfl, hb4, ⟨nt, hot, hnt⟩, hok2⟩
  rw [HU.out] at hot hok2
  have HQ4 := Lib.hid (bl_call HQ3.out hb4)
  have HOP4 := Lib.hid (own_below HOP3.out hb4)
  have HOS4 := Lib.hid (own_below HOS.out hb4)
  have HOT := Lib.hid hot
  have HNT := Lib.hid hnt
  have HK2 := Lib.hid hok2
  have HW4 := Lib.hid (bl_call HW3.out hb4)
  clear q0 q1 q2 hz hb4 hot hnt hok2
  obtain ⟨q0, q1, q2, hz⟩ := box_keep HQ4.out
  go_wp2_with fail
  go_at_call 20
  refine (unitI_any s m x _).mono ?_
  rintro e w5 ⟨he, ob5, n5, hw5⟩
  rw [HU.out] at he
  subst he
  have hb5 : Below w4.heap.size w4 w5 := by rw [hw5]; exact bl_drewN (bl_alloc (Below.refl _ _) _) _
  have HQ5 := Lib.hid (bl_call HQ4.out hb5)
  have HB5 := Lib.hid hb5
  clear q0 q1 q2 hz hb5 hw5
  obtain ⟨q0, q1, q2, hz⟩ := box_keep HQ5.out
  go_wp2_with fail
  go_at_call 21
  refine (unitS_any s m x _).mono ?_
  rintro e w6 ⟨he, ob6, n6, hw6⟩
  rw [HU.out] at he
  subst he
  have hb6 : Below w4.heap.size w4 w6 := bl_call HB5.out (by rw [hw6]; exact bl_drewN (bl_alloc (Below.refl _ _) _) _)
  have HW6 := Lib.hid (bl_call HW4.out hb6)
  have HOP6 := Lib.hid (own_below HOP4.out hb6)
  have HOS6 := Lib.hid (own_below HOS4.out hb6)
  have HOT6 := Lib.hid (own_below HOT.out hb6)
  clear q0 q1 q2 hz hb6 hw6
  obtain ⟨uv, uok⟩ := U
  cases uok
  · obtain rfl : ps = [] := HP0.out rfl
    go_wp2
    go_ret
    exact ⟨by first | rfl | (simp; done), HW6.out⟩
  cases o1
  · go_wp2
    go_ret
    exact ⟨by first | rfl | (simp; done), HW6.out⟩
  cases o2
  · go_wp2
    go_ret
    exact ⟨by first | rfl | (simp; done), HW6.out⟩
  by_cases hll : la.length = lb.length
  case neg =>
    have dl : ((la.length : Int) != (lb.length : Int)) = true := bne_iff_ne.2 (by omega)
    go_wp2
    go_ret
    exact ⟨by first | rfl | (simp; done), HW6.out⟩
  have dl : ((la.length : Int) != (lb.length : Int)) = false := bne_eq_false_iff_eq.2 (by omega)
  have h60 := (HK1.out rfl).1
  have hpp := HP1.out rfl h60 (by omega)
  have HT : Hid (∀ i (h1 : i < la.length) (h2 : i < lb.length), decide (i ∈ ps) = !(ptx (uv, true) la[i] == ptx (uv, true) lb[i])) := Lib.hid (fun i h1 h2 => by rw [hpp]; exact told hll (HK1.out rfl).2 (HK2.out rfl).2 i h1 h2)
  clear hpp
  obtain rfl : ns = la.length := HNS.out rfl
  obtain rfl : nt = lb.length := HNT.out rfl
  obtain ⟨as1, cs1, rfl⟩ := row_any HOS6.out
  obtain ⟨at1, ct1, rfl⟩ := row_any HOT6.out

  go_wp2
  go_loopw [15] (fun v wr => ∃ i : Nat, v = .int .i64 i ∧ i ≤ la.length ∧ Below w6.heap.size w6 wr) (fun v _ => la.length - (RowKit.intOf v).toNat)
  case atStart => exact ⟨0, rfl, Nat.zero_le _, Below.refl _ _⟩
  case round =>
    obtain ⟨i, rfl, hi, hbw⟩ := hrel
    have HBW := Lib.hid hbw
    clear hbw
    by_cases hlt : i < la.length
    · have ci : decide ((i : Int) < (la.length : Int)) = true := decide_eq_true (by omega)
      have hlt2 : i < lb.length := by omega
      obtain ⟨gs, rfl, hgs, hcs⟩ := row_some HOS6.out (by omega)
      obtain ⟨gt, rfl, hgt, hct⟩ := row_some HOT6.out (by omega)
      have y1 : wr.cell? ⟨gs, i, none⟩ = some (tx (ptx (uv, true) la[i])) := by
        rw [HBW.out.cell (p := ⟨gs, i, none⟩) hgs, hcs i hlt]; simp [txs, hlt]
      have y2 : wr.cell? ⟨gt, i, none⟩ = some (tx (ptx (uv, true) lb[i])) := by
        rw [HBW.out.cell (p := ⟨gt, i, none⟩) hgt, hct i hlt2]; simp [txs, hlt2]
      obtain ⟨t1, ht1⟩ : ∃ t, ptx (uv, true) la[i] = t := ⟨_, rfl⟩
      obtain ⟨t2, ht2⟩ : ∃ t, ptx (uv, true) lb[i] = t := ⟨_, rfl⟩
      have hT := HT.out i hlt hlt2
      rw [ht1] at y1 hT
      rw [ht2] at y2 hT
      obtain ⟨b, hb⟩ : ∃ b, (t1 == t2) = b := ⟨_, rfl⟩
      rw [hb] at hT
      have HOW := Lib.hid (World.ownsRow.mono (base' := 0) (own_below HOP6.out HBW.out) (Nat.zero_le _))
      clear ht1 ht2 hcs hct
      cases b
      all_goals
        simp only [Bool.not_false, Bool.not_true] at hT
        go_wp2_with fail
        go_region_held3 (fun W => (Below wr.heap.size wr W ∧ W.cell? ⟨gs, i, none⟩ = some (tx t1) ∧ W.cell? ⟨gt, i, none⟩ = some (tx t2))) (exact rc_keep y1 y2 (by repeat (first | (with_reducible exact Below.refl _ _) | (with_reducible refine Below.drew ?_) | (with_reducible refine on_call ?_ (by assumption)) | assumption))) (first | (go_at_call 22; go_split_ands; (with_reducible refine (hasInt_any _ ps _ i _ rfl hps (own_below HOW.out (by first | assumption | (with_reducible exact Below.refl _ _) | (with_reducible refine Below.drew ?_; with_reducible exact Below.refl _ _)))).mono ?_); rintro e w9 ⟨rfl, hw9⟩; rw [hT]; have hw9x := hw9.symm; clear hw9; subst hw9x))
        go_wp2
        case roundEnd => exact ⟨⟨i + 1, by simp, by omega, bl_call HBW.out (by first | assumption | exact Below.drew (Below.refl _ _))⟩, by simp [RowKit.intOf]; omega⟩
    · obtain rfl : i = la.length := by omega
      have ci : decide ((la.length : Int) < (la.length : Int)) = false := decide_eq_false (by omega)
      go_wp2
      go_ret
      exact ⟨by first | rfl | (simp; done), bl_call HW6.out HBW.out⟩
/-- The tables that these rows list. -/
abbrev laid3 : List (String × DataW Unit) := [("math/bits.deBruijn32tab", Rows.laid_math_bits_deBruijn32tab), ("math/bits.deBruijn64tab", Rows.laid_math_bits_deBruijn64tab), ("internal/strconv.uint64pow10", Rows.laid_internal_strconv_uint64pow10)]

/-- The heap that the program's own start leaves meets the condition. -/
theorem door_met (os : Os) (args : Array Value) : laidMetH Tryd.prog laid3 ((World.doorLaid Tryd.prog 400 os).forCall (fun _ _ => 0) ⟨#[], args, []⟩).memory :=
  laidMetH_of_parts3 (fuel := 8) (laidMet_of_run' 8 (by kernel_rfl) (by kernel_rfl)) (by kernel_rfl) (by kernel_rfl)

/-- The table of powers of ten, from the condition. -/
theorem pow_of_laid {W : World} (h : laidMetH Tryd.prog laid3 W) : Lib.TabIs Tryd.prog W "internal/strconv.uint64pow10" .u64 Lib.pow10Tab := by
  rw [MakeChecks.laidMetH_plain _ _ _ (by kernel_rfl)] at h
  have h2 : laidMet Tryd.prog [("internal/strconv.uint64pow10", Lib.tabData .u64 Lib.pow10Tab)] W := laidMet.tail (laidMet.tail h)
  exact Lib.tabIs_of_head (g := 4) (rest := []) (by kernel_rfl) (t := 128) (by kernel_rfl) (n := 20) Tryd.underlying128 (e := 110) Tryd.underlying110 (by kernel_rfl) (by kernel_rfl) h2

set_option maxRecDepth 100000 in
theorem lifted (os : Os) (started : os.Started) (H : Type) (enc : TypeId × Value → H) :
    ReturnsInHanded {} Tryd.checked os 6 .any (fun w args => (Rows.fnRunsComparedSpec.pre enc Tryd.prog Tryd.f6 [] false w args ∧ laidMetH Tryd.prog laid3 w) ∧ sizedMet enc Tryd.prog Tryd.f6 (OpenSpec.ofChange Rows.fnRunsComparedSpec) false w args)
      (Rows.fnRunsComparedSpec.post enc Tryd.prog Tryd.f6 false true false false) := by
  refine returnsInHanded_of_change_and (C := Tryd.checked) (X := fun w _ => laidMetH Tryd.prog laid3 w) (fun _ _ _ hh h => h.of_heap hh) own started (by kernel_rfl) Tryd.func6
    (ChangeSpec.witness_shaped (enc := enc) (C := Tryd.checked) (os := os) (X := fun w _ => laidMetH Tryd.prog laid3 w) false (World.doorLaid Tryd.prog 400 os) #[.slice none 0 0] 8 rfl (World.shaped_of_RefB (by kernel_rfl) (by kernel_rfl)) (by kernel_rfl) (by kernel_rfl) (by kernel_rfl) (door_met os _)) ?_
  intro W base args ds gs before hval0 hW _ _ hL _
  have hval : ∀ (j : Nat) t v, Tryd.f6.params[j]? = some t → args[j]? = some v → Value.okWide Tryd.prog W .any base t v := hval0
  have hW' := hW
  obtain ⟨p, q, hA0, hV, rfl, hfz, hnd⟩ := hW
  have hA : DataW.TrodAll enc Tryd.prog W 0 (fun _ => true) true Tryd.f6.params.toList args.toList ds p := hA0
  rw [Tryd.params6] at hA hval
  obtain ⟨v0, d0, rfl, rfl, h0⟩ := trodAll_one hA
  obtain ⟨rfl, rfl⟩ := trodVars_none hV
  obtain ⟨a0, len0, cap0, rfl⟩ := okWide_slice Tryd.underlying30 (hval 0 30 v0 rfl rfl)
  have k0 := h0
  have lt0 : ∀ x ∈ p, x.block < W.heap.size := by obtain ⟨m, hm⟩ := k0; exact DataW.trod_lt m _ _ _ hm
  obtain ⟨hl, hr⟩ : len0 ≤ maxLen ∧ RowOk W.heap.size W a0 len0 := by
    obtain ⟨fuel, hf⟩ := h0
    rcases open_ints Tryd.underlying30 Tryd.underlying5 (by kernel_rfl) hf with ⟨hcs, _⟩ | ⟨x, l, c, zs, hcs, _, hl, hm, hz, _, hcell, hwz⟩
    · simp [Value.cells] at hcs
      obtain ⟨rfl, rfl, rfl⟩ := hcs
      exact row_of (zs := []) (.inl ⟨rfl, rfl, rfl, rfl⟩)
    · simp [Value.cells] at hcs
      obtain ⟨rfl, rfl, rfl⟩ := hcs
      exact row_of (.inr ⟨_, rfl, hl, hm, by simpa using hz, hcell, hwz⟩)
  have htab := pow_of_laid hL
  clear hA0 hval0
  refine (walk a0 len0 cap0 W hl hr htab).mono fun e W' ⟨he, bel⟩ => ?_
  subst he
  exact ⟨_, rfl, _, _, _, [], _, [], hW', trodAll_mk1 (shut_bool Tryd.underlying4 _), trodAll_cons_mk (Below.trod laidOut (by kernel_rfl) (of_decide_eq_true (by kernel_rfl)) k0 bel lt0) trodAll_mk0, rfl, bel.frame _, fun h => by cases h⟩

theorem said : Rows.FnRunsComparedSaid :=
  OpenClaim.holds_of_wide 6 Tryd.f6 rfl rfl rfl rfl rfl rfl rfl ⟨rfl, rfl, rfl, rfl, rfl⟩ rfl rfl rfl rfl rfl (by kernel_rfl) Tryd.func6 (by kernel_rfl)
    (of_decide_eq_true (by kernel_rfl)) (by unfold Func.isWrapper; first | (rw [if_pos (by decide +kernel)]; kernel_rfl) | (rw [if_neg (by decide +kernel)]; exact ⟨rfl, rfl⟩))
    (fun os started H enc _ => lifted os started H enc)

theorem proved : Rows.FnRunsComparedCardSaid :=
  Claim7.holds_tied_plain_at .later [] [.data, .data, .data] true (true, "97ed2b1690610662391de5d6800d2b76d08e465bb64d4d8b824b3a0e4ce281c6") false
    said (fun _ h => by cases h) (by kernel_rfl) (fun _ h => by cases h) fnRunsCompared_row_tie rfl ⟨rfl, rfl⟩ (by kernel_rfl) rfl
    (fun f fn hf hfn => by
      obtain rfl : f = 6 := Option.some.inj ((show Tryd.prog.funcNamed "loop.example/g03320/laws.FnRunsCompared" = some 6 by kernel_rfl).symm.trans hf) |>.symm
      obtain rfl : fn = Tryd.f6 := (Option.some.inj (Tryd.func6.symm.trans hfn)).symm
      exact ⟨by kernel_rfl, fun j t ht => by
        rw [Tryd.params6] at ht
        have hm : t ∈ [30] := by simpa using Array.mem_of_getElem? ht
        have hall : ([30].all fun u => !Tryd.prog.wantsStandIn u) = true := by kernel_rfl
        exact (show Tryd.prog.wantsStandIn t = false by simpa using List.all_eq_true.1 hall t hm)⟩)
    (by kernel_rfl)
#print axioms proved
end Go.Proofs.YtldcciipicnooaaDoor.fnRunsCompared
