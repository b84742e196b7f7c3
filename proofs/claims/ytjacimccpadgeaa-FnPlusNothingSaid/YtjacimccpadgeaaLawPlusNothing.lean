/- For every input laws.FnPlusNothing returns true: a unary plus leaves a value as it is, and so do two unary minuses. No condition. -/
import Derived.Test.YtjacimccpadgeaaPlain
import Derived.ProofKit
import Derived.OpenShut
import Derived.ShutString
import Derived.ChangeOld
import Derived.Lib.SmallJoins
namespace Go.Proofs.Ytjacimccpadgeaa.fnPlusNothing
open Go.ChangeShapes Go.WideShapes Go.ChangeAt Go.RowKit Go.Joins
open Go.ChangeMaps (open_string shut_string)
set_option maxRecDepth 100000
set_option maxHeartbeats 8000000
set_option linter.unusedVariables false
set_option linter.unusedSimpArgs false

theorem own : ownKnob Try.prog.godebug = none := by kernel_rfl
theorem laidOut : laidOutB Try.prog = true := by kernel_rfl
theorem own_emptyN (w : World) (base q : Nat) (hq : q = w.heap.size) (hb : base ≤ w.heap.size) : (w.alloc (.cells #[] 36)).ownsRow base 36 3 (.slice (some ⟨q, 0, none⟩) 0 0) 0 [] := by
  subst hq
  have := World.ownsRow_lit (base := w.heap.size) w (e := 36) (size := 3) #[] 0 (by omega) (Nat.zero_le _) rfl
  exact this.mono hb
theorem grown {w0 W W' : World} {row : Option Nat} (h : Below w0.heap.size w0 W) (hg : W.grownBy W' row) (hr : ∀ j, row = some j → w0.heap.size ≤ j) : Below w0.heap.size w0 W' := h.grown hg h.size hr
theorem news2 (w : World) : ∀ (j : Nat) (u : Value), (ndCells ⟨4, 0, 0, 0⟩ ++ ndCells ⟨4, 0, 0, 0⟩)[j]? = some u → (w.alloc (.cells #[.int .i64 4, .int .i64 0, .complex .f64 0 0, .int .i64 4, .int .i64 0, .complex .f64 0 0] 36)).cell? ((⟨w.heap.size, 0, none⟩ : Addr).add j) = some u := by
  intro i u hj
  match i, hj with
  | 0, hj => simp at hj; subst hj; simp [Addr.add]
  | 1, hj => simp at hj; subst hj; simp [Addr.add]
  | 2, hj => simp at hj; subst hj; simp [Addr.add]
  | 3, hj => simp at hj; subst hj; simp [Addr.add]
  | 4, hj => simp at hj; subst hj; simp [Addr.add]
  | 5, hj => simp at hj; subst hj; simp [Addr.add]
theorem one2 : ∀ u ∈ ndCells ⟨4, 0, 0, 0⟩ ++ ndCells ⟨4, 0, 0, 0⟩, u.oneCell' = true := fun u hu => (List.mem_append.1 hu).elim (nd_one' _ u) (nd_one' _ u)
theorem isEx_plus {l : List Nd} (h : IsEx l) : IsEx (l ++ [⟨3, 0, 0, 0⟩]) := isEx_one h rfl
theorem isEx_minus {l : List Nd} (h : IsEx l) : IsEx (l ++ [⟨4, 0, 0, 0⟩, ⟨4, 0, 0, 0⟩]) := by
  have := isEx_one (x := ⟨4, 0, 0, 0⟩) (isEx_one (x := ⟨4, 0, 0, 0⟩) h rfl) rfl
  rwa [List.append_assoc] at this
theorem good_plus' {l : List Nd} (h : ∀ x ∈ l, GoodN x) : ∀ x ∈ l ++ [⟨3, 0, 0, 0⟩], GoodN x := good_app h (good_sing (good_op 3 ⟨by omega, by omega⟩))
theorem good_minus' {l : List Nd} (h : ∀ x ∈ l, GoodN x) : ∀ x ∈ l ++ [⟨4, 0, 0, 0⟩, ⟨4, 0, 0, 0⟩], GoodN x := good_app h (good_app (good_sing (good_op 4 ⟨by omega, by omega⟩)) (good_sing (good_op 4 ⟨by omega, by omega⟩)))

theorem walk_big (A : Option Addr) (len cap : Nat) (w : World) (h : 1048576 < len) :
    Calls Try.prog 4 #[.slice A len cap] w fun en w' => en = .returned (.bool true) ∧ Below w.heap.size w w' := by
  have hd : decide ((1048576 : Int) < (len : Int)) = true := decide_eq_true (by omega)
  have hcl : ∀ W, Calls Try.prog 6 #[.slice A len cap] W fun en w' => en = .returned (.bool true) ∧ w' = W := fun W => hd ▸ big_any A len cap W
  go_enter Try.func4, Try.ntmps4
  go_wp2_with (go_at_call 6; (with_reducible refine (hcl _).mono ?_); rintro en w1 ⟨rfl, hw⟩; have hw := hw.symm; subst hw)
  go_ret
  exact ⟨rfl, Below.refl _ _⟩
theorem walk_small (A : Option Addr) (len cap : Nat) (w : World) (h : len ≤ 1048576) (hlen : len ≤ maxLen) (hrow : RowOk w.heap.size w A len) :
    Calls Try.prog 4 #[.slice A len cap] w fun en w' => en = .returned (.bool true) ∧ Below w.heap.size w w' := by
  have hd : decide ((1048576 : Int) < (len : Int)) = false := decide_eq_false (by omega)
  have hcl : ∀ W, Calls Try.prog 6 #[.slice A len cap] W fun en w' => en = .returned (.bool false) ∧ w' = W := fun W => hd ▸ big_any A len cap W
  obtain ⟨i0, hi, hz0, hz1, hz2⟩ := info_parts A_infoN
  go_enter Try.func4, Try.ntmps4
  go_wp2_with fail
  go_at_call 6
  refine (hcl _).mono ?_
  rintro en w0 ⟨rfl, hw⟩
  have hw := hw.symm
  subst hw
  clear hcl
  go_wp2_with fail
  go_at_call 7
  refine (DrawExpr_any A len cap _ hlen hrow).mono ?_
  rintro en w1 ⟨v, u, l, zs, g, gz, rfl, hnr, hzr, hg1, hg2, hgood, hex, hll, hzs, hzl, hb1⟩
  have hl1 : 1 ≤ l.length ∧ l.length ≤ 60 := ⟨ex_ne hex, by omega⟩
  have HB1 := Lib.hid hb1
  have HNV := Lib.hid hnr.view
  have HSV := Lib.hid hzr.view
  have hgw1 := hnr.lt
  obtain ⟨capl, rfl, hown⟩ := hnr
  have HOW := Lib.hid hown
  have d2 : decide (60 < (l.length : Int) + 2) = false := decide_eq_false (by omega)
  have hlp : 1 ≤ (l ++ [⟨3, 0, 0, 0⟩] : List Nd).length ∧ (l ++ [⟨3, 0, 0, 0⟩] : List Nd).length ≤ 60 := by simp; omega
  have hlm : 1 ≤ (l ++ [⟨4, 0, 0, 0⟩, ⟨4, 0, 0, 0⟩] : List Nd).length ∧ (l ++ [⟨4, 0, 0, 0⟩, ⟨4, 0, 0, 0⟩] : List Nd).length ≤ 60 := by simp; omega
  have HLP := Lib.hid hlp
  have HLM := Lib.hid hlm
  clear hown hb1 hlp hlm hzr
  cases hq : evs zs l [] with
  | none =>
    have HQP := Lib.hid (evs_more (m := [⟨3, 0, 0, 0⟩]) hq (fun z h => by cases h) (fun st h => by cases h))
    have HQM := Lib.hid (evs_more (m := [⟨4, 0, 0, 0⟩, ⟨4, 0, 0, 0⟩]) hq (fun z h => by cases h) (fun st h => by cases h))
    go_wp2_with fail
    go_at_call 10
    refine (evI_no HNV.out HSV.out hl1 hgood hex hzs hzl hq).mono ?_
    rintro en w2 ⟨y2, rfl, hb2⟩
    go_wp2_with (at_builtin; refine wpList_append_lies _ rfl (.tmp 34) (.tmp 35) 24 rfl w2.heap.size 36 i0 (.agg #[.int .i64 0, .int .i64 0, .complex .f64 0 0]) 3 32 Try.underlying24 hi hz0 hz1 hz2 rfl (by decide) _ _ _ rfl (own_emptyN _ _ _ ?e1 ?e2) ⟨g, 0, none⟩ l.length capl (l.flatMap ndCells) rfl ?d1 ?d2 ?d3 ?d4 ?d5 ?d6 ?d7 _ rfl ?_)
    case d1 => exact flat_len l
    case d2 => exact (own_block HOW.out (Below.block (show Below w1.heap.size w1 _ from by repeat (first | exact Below.refl _ _ | assumption | refine bl_drewN ?_ _ | refine bl_drew ?_ | refine bl_alloc ?_ _ | refine bl_set ?_ (by first | (simp; done) | (simp; omega) | omega | (simp [World.setCell]; done) | (simp [World.setCell]; omega)) _ | refine bl_call ?_ (by assumption))) g hgw1)).cells rfl
    case d3 => exact nd_one l
    case d4 => omega
    case d5 => unfold maxLen; omega
    case d6 => omega
    case d7 => simp
    case e1 => simp
    case e2 => simp
    · intro g4 cap4 w4 hown4 hgr4 _ hl4
      have hb4 : Below w2.heap.size w2 w4 := grown (by repeat (first | exact Below.refl _ _ | assumption | refine bl_drewN ?_ _ | refine bl_drew ?_ | refine bl_alloc ?_ _ | refine bl_set ?_ (by first | (simp; done) | (simp; omega) | omega | (simp [World.setCell]; done) | (simp [World.setCell]; omega)) _ | refine bl_call ?_ (by assumption))) hgr4 (fun j hj => by have h9 : some w2.heap.size = some j := hj; have := Option.some.inj h9; omega)
      have hs4 := hb4.size
      have HO4 := Lib.hid hown4
      clear hown4 hgr4
      go_wp2_with (at_builtin; refine wpList_append_lies _ rfl (.tmp 36) (.tmp 38) 24 rfl w2.heap.size 36 i0 (.agg #[.int .i64 0, .int .i64 0, .complex .f64 0 0]) 3 32 Try.underlying24 hi hz0 hz1 hz2 rfl (by decide) _ _ _ rfl (HO4.out.alloc _) ⟨w4.heap.size, 0, none⟩ 1 1 (ndCells ⟨3, 0, 0, 0⟩) rfl ?d1 ?d2 ?d3 ?d4 ?d5 ?d6 ?d7 _ rfl ?_)
      case d1 => rfl
      case d2 => exact nd_news w4 ⟨3, 0, 0, 0⟩
      case d3 => exact nd_one' _
      case d4 => decide
      case d5 => unfold maxLen; omega
      case d6 => omega
      case d7 => rw [World.size_alloc]; omega
      · intro g6 cap6 w6 hown6 hgr6 _ hl6
        have hb6 : Below w2.heap.size w2 w6 := grown (bl_alloc hb4 _) hgr6 (fun j hj => (HO4.out.lt j hj).1)
        have HPV : Hid (NView w6 (.slice (some ⟨g6, 0, none⟩) (l.length + 1) cap6) (l ++ [⟨3, 0, 0, 0⟩])) := Lib.hid (NRow.view (NRow.app (l2 := [⟨3, 0, 0, 0⟩]) (by simp) (by simp) hown6))
        clear hown6 hgr6 HO4 hb4
        have hs6 := hb6.size
        go_wp2_with (at_builtin; refine wpList_append_lies _ rfl (.tmp 40) (.tmp 41) 24 rfl w6.heap.size 36 i0 (.agg #[.int .i64 0, .int .i64 0, .complex .f64 0 0]) 3 32 Try.underlying24 hi hz0 hz1 hz2 rfl (by decide) _ _ _ rfl (own_emptyN _ _ _ ?e1 ?e2) ⟨g, 0, none⟩ l.length capl (l.flatMap ndCells) rfl ?d1 ?d2 ?d3 ?d4 ?d5 ?d6 ?d7 _ rfl ?_)
        case d1 => exact flat_len l
        case d2 => exact (own_block HOW.out (Below.block (show Below w1.heap.size w1 _ from by repeat (first | exact Below.refl _ _ | assumption | refine bl_drewN ?_ _ | refine bl_drew ?_ | refine bl_alloc ?_ _ | refine bl_set ?_ (by first | (simp; done) | (simp; omega) | omega | (simp [World.setCell]; done) | (simp [World.setCell]; omega)) _ | refine bl_call ?_ (by assumption))) g hgw1)).cells rfl
        case d3 => exact nd_one l
        case d4 => omega
        case d5 => unfold maxLen; omega
        case d6 => omega
        case d7 => simp
        case e1 => simp
        case e2 => simp
        · intro g7 cap7 w4 hown4 hgr4 _ hl4
          have hb4 : Below w6.heap.size w6 w4 := grown (by repeat (first | exact Below.refl _ _ | assumption | refine bl_drewN ?_ _ | refine bl_drew ?_ | refine bl_alloc ?_ _ | refine bl_set ?_ (by first | (simp; done) | (simp; omega) | omega | (simp [World.setCell]; done) | (simp [World.setCell]; omega)) _ | refine bl_call ?_ (by assumption))) hgr4 (fun j hj => by have h9 : some w6.heap.size = some j := hj; have := Option.some.inj h9; omega)
          have hs4 := hb4.size
          have HO4 := Lib.hid hown4
          clear hown4 hgr4
          go_wp2_with (at_builtin; refine wpList_append_lies _ rfl (.tmp 42) (.tmp 45) 24 rfl w6.heap.size 36 i0 (.agg #[.int .i64 0, .int .i64 0, .complex .f64 0 0]) 3 32 Try.underlying24 hi hz0 hz1 hz2 rfl (by decide) _ _ _ rfl (HO4.out.alloc _) ⟨w4.heap.size, 0, none⟩ 2 2 (ndCells ⟨4, 0, 0, 0⟩ ++ ndCells ⟨4, 0, 0, 0⟩) rfl ?d1 ?d2 ?d3 ?d4 ?d5 ?d6 ?d7 _ rfl ?_)
          case d1 => rfl
          case d2 => exact news2 w4
          case d3 => exact one2
          case d4 => decide
          case d5 => unfold maxLen; omega
          case d6 => omega
          case d7 => rw [World.size_alloc]; omega
          · intro g8 cap8 w8 hown8 hgr8 _ hl8
            have hb8 : Below w6.heap.size w6 w8 := grown (bl_alloc hb4 _) hgr8 (fun j hj => (HO4.out.lt j hj).1)
            have HMV : Hid (NView w8 (.slice (some ⟨g8, 0, none⟩) (l.length + 2) cap8) (l ++ [⟨4, 0, 0, 0⟩, ⟨4, 0, 0, 0⟩])) := Lib.hid (NRow.view (NRow.app (l2 := [⟨4, 0, 0, 0⟩, ⟨4, 0, 0, 0⟩]) (by simp) (by simp) hown8))
            clear hown8 hgr8 HO4 hb4
            have hb18 : Below w1.heap.size w1 w8 := bl_call (bl_call hb2 hb6) hb8
            have HPV8 := Lib.hid (HPV.out.below hb8)
            have HNV8 := Lib.hid (HNV.out.below hb18)
            have HSV8 := Lib.hid (HSV.out.below hb18)
            have HB8 := Lib.hid (bl_call HB1.out hb18)
            clear hb8 hb6 hb2 hb18
            go_wp2_with fail
            go_at_call 10
            refine (evI_no HPV8.out HSV8.out HLP.out (good_plus' hgood) (isEx_plus hex) hzs hzl HQP.out).mono ?_
            rintro en w9 ⟨y9, rfl, hb9⟩
            go_wp2_with fail
            go_at_call 10
            refine (evI_no (HMV.out.below hb9) (HSV8.out.below hb9) HLM.out (good_minus' hgood) (isEx_minus hex) hzs hzl HQM.out).mono ?_
            rintro en w10 ⟨y10, rfl, hb10⟩
            have hb810 := bl_call hb9 hb10
            go_wp2_with fail
            go_at_call 12
            refine (evS_is (HNV8.out.below hb810) (HSV8.out.below hb810) hl1 hgood hex hzs hzl (b := false) (by rw [hq]; rfl)).mono ?_
            rintro en w11 ⟨y11, rfl, hb11⟩
            have HB11 := Lib.hid (bl_call HB8.out (bl_call hb810 hb11))
            clear hb9 hb10 hb11 hb810
            go_wp2
            go_ret
            exact ⟨rfl, HB11.out⟩

  | some st =>
    obtain ⟨z, rfl⟩ := evs_one hex hq
    go_wp2_with fail
    go_at_call 10
    refine (evI_val HNV.out HSV.out hl1 hgood hex hzs hzl hq).mono ?_
    rintro en w2 ⟨rfl, hzf, hb2⟩
    have HZ := Lib.hid hzf
    have HQP := Lib.hid (evs_more (m := [⟨3, 0, 0, 0⟩]) hq (fun y h => by cases h; exact evs_plus zs hzf) (fun st h => ⟨z, (Option.some.inj h).symm⟩))
    have HQM := Lib.hid (evs_more (m := [⟨4, 0, 0, 0⟩, ⟨4, 0, 0, 0⟩]) hq (fun y h => by cases h; exact evs_minus zs hzf) (fun st h => ⟨z, (Option.some.inj h).symm⟩))
    clear hzf
    go_wp2_with (at_builtin; refine wpList_append_lies _ rfl (.tmp 34) (.tmp 35) 24 rfl w2.heap.size 36 i0 (.agg #[.int .i64 0, .int .i64 0, .complex .f64 0 0]) 3 32 Try.underlying24 hi hz0 hz1 hz2 rfl (by decide) _ _ _ rfl (own_emptyN _ _ _ ?e1 ?e2) ⟨g, 0, none⟩ l.length capl (l.flatMap ndCells) rfl ?d1 ?d2 ?d3 ?d4 ?d5 ?d6 ?d7 _ rfl ?_)
    case d1 => exact flat_len l
    case d2 => exact (own_block HOW.out (Below.block (show Below w1.heap.size w1 _ from by repeat (first | exact Below.refl _ _ | assumption | refine bl_drewN ?_ _ | refine bl_drew ?_ | refine bl_alloc ?_ _ | refine bl_set ?_ (by first | (simp; done) | (simp; omega) | omega | (simp [World.setCell]; done) | (simp [World.setCell]; omega)) _ | refine bl_call ?_ (by assumption))) g hgw1)).cells rfl
    case d3 => exact nd_one l
    case d4 => omega
    case d5 => unfold maxLen; omega
    case d6 => omega
    case d7 => simp
    case e1 => simp
    case e2 => simp
    · intro g4 cap4 w4 hown4 hgr4 _ hl4
      have hb4 : Below w2.heap.size w2 w4 := grown (by repeat (first | exact Below.refl _ _ | assumption | refine bl_drewN ?_ _ | refine bl_drew ?_ | refine bl_alloc ?_ _ | refine bl_set ?_ (by first | (simp; done) | (simp; omega) | omega | (simp [World.setCell]; done) | (simp [World.setCell]; omega)) _ | refine bl_call ?_ (by assumption))) hgr4 (fun j hj => by have h9 : some w2.heap.size = some j := hj; have := Option.some.inj h9; omega)
      have hs4 := hb4.size
      have HO4 := Lib.hid hown4
      clear hown4 hgr4
      go_wp2_with (at_builtin; refine wpList_append_lies _ rfl (.tmp 36) (.tmp 38) 24 rfl w2.heap.size 36 i0 (.agg #[.int .i64 0, .int .i64 0, .complex .f64 0 0]) 3 32 Try.underlying24 hi hz0 hz1 hz2 rfl (by decide) _ _ _ rfl (HO4.out.alloc _) ⟨w4.heap.size, 0, none⟩ 1 1 (ndCells ⟨3, 0, 0, 0⟩) rfl ?d1 ?d2 ?d3 ?d4 ?d5 ?d6 ?d7 _ rfl ?_)
      case d1 => rfl
      case d2 => exact nd_news w4 ⟨3, 0, 0, 0⟩
      case d3 => exact nd_one' _
      case d4 => decide
      case d5 => unfold maxLen; omega
      case d6 => omega
      case d7 => rw [World.size_alloc]; omega
      · intro g6 cap6 w6 hown6 hgr6 _ hl6
        have hb6 : Below w2.heap.size w2 w6 := grown (bl_alloc hb4 _) hgr6 (fun j hj => (HO4.out.lt j hj).1)
        have HPV : Hid (NView w6 (.slice (some ⟨g6, 0, none⟩) (l.length + 1) cap6) (l ++ [⟨3, 0, 0, 0⟩])) := Lib.hid (NRow.view (NRow.app (l2 := [⟨3, 0, 0, 0⟩]) (by simp) (by simp) hown6))
        clear hown6 hgr6 HO4 hb4
        have hs6 := hb6.size
        go_wp2_with (at_builtin; refine wpList_append_lies _ rfl (.tmp 40) (.tmp 41) 24 rfl w6.heap.size 36 i0 (.agg #[.int .i64 0, .int .i64 0, .complex .f64 0 0]) 3 32 Try.underlying24 hi hz0 hz1 hz2 rfl (by decide) _ _ _ rfl (own_emptyN _ _ _ ?e1 ?e2) ⟨g, 0, none⟩ l.length capl (l.flatMap ndCells) rfl ?d1 ?d2 ?d3 ?d4 ?d5 ?d6 ?d7 _ rfl ?_)
        case d1 => exact flat_len l
        case d2 => exact (own_block HOW.out (Below.block (show Below w1.heap.size w1 _ from by repeat (first | exact Below.refl _ _ | assumption | refine bl_drewN ?_ _ | refine bl_drew ?_ | refine bl_alloc ?_ _ | refine bl_set ?_ (by first | (simp; done) | (simp; omega) | omega | (simp [World.setCell]; done) | (simp [World.setCell]; omega)) _ | refine bl_call ?_ (by assumption))) g hgw1)).cells rfl
        case d3 => exact nd_one l
        case d4 => omega
        case d5 => unfold maxLen; omega
        case d6 => omega
        case d7 => simp
        case e1 => simp
        case e2 => simp
        · intro g7 cap7 w4 hown4 hgr4 _ hl4
          have hb4 : Below w6.heap.size w6 w4 := grown (by repeat (first | exact Below.refl _ _ | assumption | refine bl_drewN ?_ _ | refine bl_drew ?_ | refine bl_alloc ?_ _ | refine bl_set ?_ (by first | (simp; done) | (simp; omega) | omega | (simp [World.setCell]; done) | (simp [World.setCell]; omega)) _ | refine bl_call ?_ (by assumption))) hgr4 (fun j hj => by have h9 : some w6.heap.size = some j := hj; have := Option.some.inj h9; omega)
          have hs4 := hb4.size
          have HO4 := Lib.hid hown4
          clear hown4 hgr4
          go_wp2_with (at_builtin; refine wpList_append_lies _ rfl (.tmp 42) (.tmp 45) 24 rfl w6.heap.size 36 i0 (.agg #[.int .i64 0, .int .i64 0, .complex .f64 0 0]) 3 32 Try.underlying24 hi hz0 hz1 hz2 rfl (by decide) _ _ _ rfl (HO4.out.alloc _) ⟨w4.heap.size, 0, none⟩ 2 2 (ndCells ⟨4, 0, 0, 0⟩ ++ ndCells ⟨4, 0, 0, 0⟩) rfl ?d1 ?d2 ?d3 ?d4 ?d5 ?d6 ?d7 _ rfl ?_)
          case d1 => rfl
          case d2 => exact news2 w4
          case d3 => exact one2
          case d4 => decide
          case d5 => unfold maxLen; omega
          case d6 => omega
          case d7 => rw [World.size_alloc]; omega
          · intro g8 cap8 w8 hown8 hgr8 _ hl8
            have hb8 : Below w6.heap.size w6 w8 := grown (bl_alloc hb4 _) hgr8 (fun j hj => (HO4.out.lt j hj).1)
            have HMV : Hid (NView w8 (.slice (some ⟨g8, 0, none⟩) (l.length + 2) cap8) (l ++ [⟨4, 0, 0, 0⟩, ⟨4, 0, 0, 0⟩])) := Lib.hid (NRow.view (NRow.app (l2 := [⟨4, 0, 0, 0⟩, ⟨4, 0, 0, 0⟩]) (by simp) (by simp) hown8))
            clear hown8 hgr8 HO4 hb4
            have hb18 : Below w1.heap.size w1 w8 := bl_call (bl_call hb2 hb6) hb8
            have HPV8 := Lib.hid (HPV.out.below hb8)
            have HNV8 := Lib.hid (HNV.out.below hb18)
            have HSV8 := Lib.hid (HSV.out.below hb18)
            have HB8 := Lib.hid (bl_call HB1.out hb18)
            clear hb8 hb6 hb2 hb18
            go_wp2_with fail
            go_at_call 10
            refine (evI_val HPV8.out HSV8.out HLP.out (good_plus' hgood) (isEx_plus hex) hzs hzl HQP.out).mono ?_
            rintro en w9 ⟨rfl, _, hb9⟩
            go_wp2_with fail
            go_at_call 10
            refine (evI_val (HMV.out.below hb9) (HSV8.out.below hb9) HLM.out (good_minus' hgood) (isEx_minus hex) hzs hzl HQM.out).mono ?_
            rintro en w10 ⟨rfl, _, hb10⟩
            have hb810 := bl_call hb9 hb10
            go_wp2_with fail
            go_at_call 12
            refine (evS_is (HNV8.out.below hb810) (HSV8.out.below hb810) hl1 hgood hex hzs hzl (b := true) (by rw [hq]; rfl)).mono ?_
            rintro en w11 ⟨y11, rfl, hb11⟩
            have HB11 := Lib.hid (bl_call HB8.out (bl_call hb810 hb11))
            clear hb9 hb10 hb11 hb810
            go_wp2_with (go_at_call 13; (with_reducible refine (sameL_self z _ HZ.out).mono ?_); rintro en wS ⟨rfl, nS, hw⟩; subst hw)
            go_ret
            exact ⟨rfl, bl_drewN HB11.out _⟩

theorem walk (A : Option Addr) (len cap : Nat) (w : World) (hlen : len ≤ maxLen) (hrow : RowOk w.heap.size w A len) :
    Calls Try.prog 4 #[.slice A len cap] w fun en w' => en = .returned (.bool true) ∧ Below w.heap.size w w' := by
  rcases Nat.lt_or_ge 1048576 len with h | h
  · exact walk_big A len cap w h
  · exact walk_small A len cap w h hlen hrow

set_option maxRecDepth 100000 in
theorem lifted (os : Os) (started : os.Started) (H : Type) (enc : TypeId × Value → H) :
    ReturnsInHanded {} Try.checked os 4 .any (Rows.fnPlusNothingSpec.pre6 enc Try.prog Try.f4 Rows.fnPlusNothingRow.domain false) (Rows.fnPlusNothingSpec.post enc Try.prog Try.f4 false true false false) := by
  refine returnsInHanded_of_change (C := Try.checked) own started (by kernel_rfl) Try.func4
    (ChangeSpec.witness6 (enc := enc) (C := Try.checked) false ⟨#[], #[.slice none 0 0], []⟩ 8 (by kernel_rfl) (by kernel_rfl) (by kernel_rfl) (by kernel_rfl)) ?_
  intro W base args ds gs before hval0 hW hcnd _
  have hval : ∀ (j : Nat) t v, Try.f4.params[j]? = some t → args[j]? = some v → Value.okWide Try.prog W .any base t v := hval0
  have hW' := hW
  obtain ⟨p, q, hA0, hV, rfl, hfz, hnd⟩ := hW
  have hA : DataW.TrodAll enc Try.prog W 0 (fun _ => true) true Try.f4.params.toList args.toList ds p := hA0
  rw [Try.params4] at hA hval
  obtain ⟨v0, vs0, d0, ds0, p0, q0, hargs, rfl, rfl, h0, r0⟩ := trodAll_cons hA
  obtain ⟨rfl, rfl, rfl⟩ := trodAll_nil r0
  obtain rfl : args = #[v0] := by cases args; simp_all
  obtain ⟨rfl, rfl⟩ := trodVars_none hV
  obtain ⟨a0, len0, cap0, rfl⟩ := okWide_slice Try.underlying22 (hval 0 22 v0 rfl rfl)
  have k0 := h0
  have lt0 : ∀ x ∈ p0, x.block < W.heap.size := by obtain ⟨m, hm⟩ := k0; exact DataW.trod_lt m _ _ _ hm
  obtain ⟨hl, hr⟩ : len0 ≤ maxLen ∧ RowOk W.heap.size W a0 len0 := by
    obtain ⟨fuel, hf⟩ := h0
    rcases open_ints Try.underlying22 Try.underlying5 (by kernel_rfl) hf with ⟨hcs, _⟩ | ⟨x, l, c, zs, hcs, _, hl, hm, hz, _, hcell, hwz⟩
    · simp [Value.cells] at hcs
      obtain ⟨rfl, rfl, rfl⟩ := hcs
      exact row_of (zs := []) (.inl ⟨rfl, rfl, rfl, rfl⟩)
    · simp [Value.cells] at hcs
      obtain ⟨rfl, rfl, rfl⟩ := hcs
      exact row_of (.inr ⟨_, rfl, hl, hm, by simpa using hz, hcell, hwz⟩)
  clear hA0 hval0
  refine (walk a0 len0 cap0 W hl hr).mono fun e W' ⟨he, bel⟩ => ?_
  subst he
  exact ⟨_, rfl, _, _, _, [], _, [], hW', trodAll_mk1 (shut_bool Try.underlying4 _), (trodAll_cons_mk (Below.trod laidOut (by kernel_rfl) (of_decide_eq_true (by kernel_rfl)) k0 bel lt0) trodAll_mk0), rfl, bel.frame _, fun h => by cases h⟩

theorem proved : Rows.FnPlusNothingSaid :=
  OpenClaim.holds_of_wide 4 Try.f4 rfl rfl rfl rfl rfl rfl rfl ⟨rfl, rfl, rfl, rfl, rfl⟩ rfl rfl rfl rfl rfl (by kernel_rfl) Try.func4 (by kernel_rfl)
    (of_decide_eq_true (by kernel_rfl)) (by unfold Func.isWrapper; first | (rw [if_pos (by decide +kernel)]; kernel_rfl) | (rw [if_neg (by decide +kernel)]; exact ⟨rfl, rfl⟩))
    (fun os started H enc _ => lifted os started H enc)
#print axioms proved
end Go.Proofs.Ytjacimccpadgeaa.fnPlusNothing
