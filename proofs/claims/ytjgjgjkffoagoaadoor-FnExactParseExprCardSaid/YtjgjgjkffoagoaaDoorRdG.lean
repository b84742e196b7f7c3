/- The reader of expressions walked: a factor; all of it. Condition: the table of powers of ten is laid. (printed by genrdg.py) -/
import Derived.Test.YtjgjgjkffoagoaaDoorRdF
namespace Go.Proofs.YtjgjgjkffoagoaaDoor
open Go.RowKit
attribute [local go_sem] run_store_float run_store_complex
set_option maxRecDepth 100000
set_option maxHeartbeats 2000000
set_option linter.unusedVariables false
set_option linter.unusedSimpArgs false

theorem prs_fac {s : List UInt8} {F i : Nat} {out : List Nd} {r : Option St} (h : prs s F .fac i out = some r) : ∃ f, f < F ∧
    (if stands s i [43] then thenP (prs s f .fac (skip s i + 1) out) (fun i o => some (some (i, o ++ [nd 3])))
    else if stands s i [45] then thenP (prs s f .fac (skip s i + 1) out) (fun i o => some (some (i, o ++ [nd 4])))
    else if stands s i [40] then thenP (prs s f (.lev 0) (skip s i + 1) out) (shutP s [])
    else if stands s i [99, 111, 110, 106] then prs s f (.word 5) (skip s i + 4) out
    else if stands s i [114, 101] then prs s f (.word 6) (skip s i + 2) out
    else if stands s i [105, 109] then prs s f (.word 7) (skip s i + 2) out
    else if stands s i [115] then some (slotP s (skip s i + 1) out)
    else some (numF s (skip s i) out)) = some r := by
  cases F with
  | zero => cases h
  | succ f => exact ⟨f, Nat.lt_succ_self f, h⟩
theorem word_rd {w0 wb w' : World} {s : List UInt8} {i j : Nat} {out : List Nd} {r : Option St} {e : Ending} (h : WordEnd w0 wb s j out r e w') (hj : i + 1 ≤ j) : RdR w0 wb s w' i out r := by
  obtain ⟨_, a, b, h1, h2, h3, h4⟩ := h
  exact ⟨a, b, h1, h2, by omega, by omega⟩
theorem slotP_no {s : List UInt8} {p : Nat} {out : List Nd} (h : ∀ c, s[p]? = some c → isFig c = false) : slotP s p out = none := by
  unfold slotP
  cases hq : s[p]? with
  | none => rfl
  | some c =>
    show (if isFig c then _ else _) = _
    rw [h c hq]; rfl
theorem slotP_yes {s : List UInt8} {p : Nat} {out : List Nd} {c : UInt8} (h : s[p]? = some c) (hf : isFig c = true) : slotP s p out = some (p + 1, out ++ [⟨2, (c.toNat : Int) - 48, 0, 0⟩]) := by
  unfold slotP
  rw [h]
  show (if isFig c then _ else _) = _
  rw [hf]; rfl
theorem rdr_more {w0 wb w' : World} {s : List UInt8} {i j : Nat} {out : List Nd} {r : Option St} (h : RdR w0 wb s w' j out r) (hj : i ≤ j) : RdR w0 wb s w' i out r := by
  obtain ⟨a, b, h1, h2, h3, h4⟩ := h
  exact ⟨a, b, h1, h2, by omega, by omega⟩
theorem factor_walk (w0 : World) (htab : Lib.TabIs Tryd.prog w0 "internal/strconv.uint64pow10" .u64 Lib.pow10Tab) (s : List UInt8) (hs : s.length ≤ 1000000) (F : Nat) (IH : IHs w0 s F) (i : Nat) (out : List Nd) (r : Option St) (hp : prs s F .fac i out = some r) (wb w : World) (h : Rd w0 wb s w i out false) (hlen : out.length ≤ i) :
    Calls Tryd.prog 41 #[.pointer (some ⟨w0.heap.size, 0, none⟩)] w (RdEnd w0 wb s i out r) := by
  have hil := h.le
  have H := Lib.hid h
  have HIH := Lib.hid IH
  obtain ⟨f, hf, hp2⟩ := prs_fac hp
  have hge := skip_ge s i
  have hsl := skip_le hil
  obtain ⟨q0, q1, q3, f1, f2, f3⟩ := h.cells
  clear h IH hp
  cases hb1 : stands s i [43]
  case true =>
    rw [hb1] at hp2
    have hle := stands_le hil hb1
    have hle : skip s i + 1 ≤ s.length := hle
    have HB1 := Lib.hid hb1
    clear hb1
    obtain ⟨x, hx, hor⟩ := thenP_some (show thenP (prs s f .fac (skip s i + 1) out) (fun i o => some (some (i, o ++ [nd 3]))) = some r from hp2)
    have HX := Lib.hid hx
    have HOR := Lib.hid hor
    clear hp2 hx hor
    go_enter Tryd.func41, Tryd.ntmps41
    go_wp2_with fail
    go_at_call 62
    refine (take_is _ [43] rfl 1 rfl (by decide) w0 wb _ s hs i hil out true HB1.out (.inl H.out)).mono ?_
    rintro e w1 ⟨rfl, hr1⟩
    have HT1 := Lib.hid hr1
    clear hr1
    go_wp2_with fail
    go_at_call 41
    refine Calls.mono (show Calls Tryd.prog 41 #[.pointer (some ⟨w0.heap.size, 0, none⟩)] _ (RdEnd w0 wb s (skip s i + 1) out x) from HIH.out f hf .fac (skip s i + 1) out x HX.out wb _ HT1.out (by omega)) ?_
    rintro e v2 ⟨rfl, hr⟩
    obtain ⟨i2, o2, h2, h2p, h2i, h2o⟩ := hr
    have HR2 := Lib.hid h2
    have HP2 := Lib.hid h2p
    have hl2 := h2.le
    clear h2 h2p
    go_wp2_with fail
    go_at_call 43
    refine (put_any 3 w0 wb _ s i2 o2 _ (by omega) HR2.out).mono ?_
    rintro e v3 ⟨rfl, hr3⟩
    have HE : Hid (RdR w0 wb s v3 i out r) := Lib.hid (by
      rcases HOR.out with ⟨h1, h2⟩ | ⟨i3, o3, h1, h2⟩
      · subst h1
        exact rd_no hr3 (by omega) (by simp; omega) h2
      · subst h1
        have h3 := HP2.out _ rfl
        cases h3
        exact rd_some (Option.some.inj h2).symm hr3 (by omega) (by simp; omega))
    clear hr3
    go_wp2
    first
      | refine bodyPost_end (results_none rfl _ _ _) rfl ⟨rfl, HE.out⟩
      | refine bodyPost_ret (results_none rfl _ _ _) rfl ⟨rfl, HE.out⟩
  case false =>
    cases hb2 : stands s i [45]
    case true =>
      rw [hb1, hb2] at hp2
      have hle := stands_le hil hb2
      have hle : skip s i + 1 ≤ s.length := hle
      have HB1 := Lib.hid hb1
      have HB2 := Lib.hid hb2
      clear hb1 hb2
      obtain ⟨x, hx, hor⟩ := thenP_some (show thenP (prs s f .fac (skip s i + 1) out) (fun i o => some (some (i, o ++ [nd 4]))) = some r from hp2)
      have HX := Lib.hid hx
      have HOR := Lib.hid hor
      clear hp2 hx hor
      go_enter Tryd.func41, Tryd.ntmps41
      go_wp2_with fail
      go_at_call 62
      refine (take_is _ [43] rfl 1 rfl (by decide) w0 wb _ s hs i hil out false HB1.out (.inl H.out)).mono ?_
      rintro e w1 ⟨rfl, hr1⟩
      have HT1 := Lib.hid hr1
      clear hr1
      go_wp2_with fail
      go_at_call 62
      refine (take_is _ [45] rfl 1 rfl (by decide) w0 wb _ s hs i hil out true HB2.out (.inr HT1.out)).mono ?_
      rintro e w2 ⟨rfl, hr2⟩
      have HT2 := Lib.hid hr2
      clear hr2
      go_wp2_with fail
      go_at_call 41
      refine Calls.mono (show Calls Tryd.prog 41 #[.pointer (some ⟨w0.heap.size, 0, none⟩)] _ (RdEnd w0 wb s (skip s i + 1) out x) from HIH.out f hf .fac (skip s i + 1) out x HX.out wb _ HT2.out (by omega)) ?_
      rintro e v2 ⟨rfl, hr⟩
      obtain ⟨i2, o2, h2, h2p, h2i, h2o⟩ := hr
      have HR2 := Lib.hid h2
      have HP2 := Lib.hid h2p
      have hl2 := h2.le
      clear h2 h2p
      go_wp2_with fail
      go_at_call 43
      refine (put_any 4 w0 wb _ s i2 o2 _ (by omega) HR2.out).mono ?_
      rintro e v3 ⟨rfl, hr3⟩
      have HE : Hid (RdR w0 wb s v3 i out r) := Lib.hid (by
        rcases HOR.out with ⟨h1, h2⟩ | ⟨i3, o3, h1, h2⟩
        · subst h1
          exact rd_no hr3 (by omega) (by simp; omega) h2
        · subst h1
          have h3 := HP2.out _ rfl
          cases h3
          exact rd_some (Option.some.inj h2).symm hr3 (by omega) (by simp; omega))
      clear hr3
      go_wp2
      first
        | refine bodyPost_end (results_none rfl _ _ _) rfl ⟨rfl, HE.out⟩
        | refine bodyPost_ret (results_none rfl _ _ _) rfl ⟨rfl, HE.out⟩
    case false =>
      cases hb3 : stands s i [40]
      case true =>
        rw [hb1, hb2, hb3] at hp2
        have hle := stands_le hil hb3
        have hle : skip s i + 1 ≤ s.length := hle
        have HB1 := Lib.hid hb1
        have HB2 := Lib.hid hb2
        have HB3 := Lib.hid hb3
        clear hb1 hb2 hb3
        obtain ⟨x, hx, hor⟩ := thenP_some (show thenP (prs s f (.lev 0) (skip s i + 1) out) (shutP s []) = some r from hp2)
        have HX := Lib.hid hx
        have HOR := Lib.hid hor
        clear hp2 hx hor
        go_enter Tryd.func41, Tryd.ntmps41
        go_wp2_with fail
        go_at_call 62
        refine (take_is _ [43] rfl 1 rfl (by decide) w0 wb _ s hs i hil out false HB1.out (.inl H.out)).mono ?_
        rintro e w1 ⟨rfl, hr1⟩
        have HT1 := Lib.hid hr1
        clear hr1
        go_wp2_with fail
        go_at_call 62
        refine (take_is _ [45] rfl 1 rfl (by decide) w0 wb _ s hs i hil out false HB2.out (.inr HT1.out)).mono ?_
        rintro e w2 ⟨rfl, hr2⟩
        have HT2 := Lib.hid hr2
        clear hr2
        go_wp2_with fail
        go_at_call 62
        refine (take_is _ [40] rfl 1 rfl (by decide) w0 wb _ s hs i hil out true HB3.out (.inr HT2.out)).mono ?_
        rintro e w3 ⟨rfl, hr3⟩
        have HT3 := Lib.hid hr3
        clear hr3
        go_wp2_with fail
        go_at_call 24
        refine (HIH.out f hf (.lev 0) (skip s i + 1) out x HX.out wb _ HT3.out (by omega) (by decide)).mono ?_
        rintro e v2 ⟨rfl, hr⟩
        obtain ⟨i2, o2, h2, h2p, h2i, h2o⟩ := hr
        have HR2 := Lib.hid h2
        have HP2 := Lib.hid h2p
        have hl2 := h2.le
        clear h2 h2p
        go_wp2_with fail
        go_at_call 63
        refine (want_is _ 41 rfl w0 wb _ s hs i2 o2 _ HR2.out).mono ?_
        rintro e v3 ⟨rfl, hr3⟩
        have HE : Hid (RdR w0 wb s v3 i out r) := Lib.hid (by
          have hge2 := skip_ge s i2
          rcases HOR.out with ⟨h1, h2⟩ | ⟨i3, o3, h1, h2⟩
          · subst h1
            exact rd_no hr3 (by split <;> omega) (by split <;> omega) h2
          · subst h1
            have h3 := HP2.out _ rfl
            cases h3
            unfold shutP at h2
            cases hq : stands s i2 [41]
            · rw [hq] at h2 hr3
              exact rd_no hr3 (by simp; omega) (by simp; omega) (Option.some.inj h2).symm
            · rw [hq] at h2 hr3
              exact rd_some (by have := (Option.some.inj h2).symm; simpa using this) hr3 (by simp; omega) (by simp; omega))
        clear hr3
        go_wp2
        first
          | refine bodyPost_end (results_none rfl _ _ _) rfl ⟨rfl, HE.out⟩
          | refine bodyPost_ret (results_none rfl _ _ _) rfl ⟨rfl, HE.out⟩
      case false =>
        cases hb4 : stands s i [99, 111, 110, 106]
        case true =>
          rw [hb1, hb2, hb3, hb4] at hp2
          have hle := stands_le hil hb4
          have hle : skip s i + 4 ≤ s.length := hle
          have HB1 := Lib.hid hb1
          have HB2 := Lib.hid hb2
          have HB3 := Lib.hid hb3
          have HB4 := Lib.hid hb4
          clear hb1 hb2 hb3 hb4
          have HX := Lib.hid (show prs s f (.word 5) (skip s i + 4) out = some r from hp2)
          clear hp2
          go_enter Tryd.func41, Tryd.ntmps41
          go_wp2_with fail
          go_at_call 62
          refine (take_is _ [43] rfl 1 rfl (by decide) w0 wb _ s hs i hil out false HB1.out (.inl H.out)).mono ?_
          rintro e w1 ⟨rfl, hr1⟩
          have HT1 := Lib.hid hr1
          clear hr1
          go_wp2_with fail
          go_at_call 62
          refine (take_is _ [45] rfl 1 rfl (by decide) w0 wb _ s hs i hil out false HB2.out (.inr HT1.out)).mono ?_
          rintro e w2 ⟨rfl, hr2⟩
          have HT2 := Lib.hid hr2
          clear hr2
          go_wp2_with fail
          go_at_call 62
          refine (take_is _ [40] rfl 1 rfl (by decide) w0 wb _ s hs i hil out false HB3.out (.inr HT2.out)).mono ?_
          rintro e w3 ⟨rfl, hr3⟩
          have HT3 := Lib.hid hr3
          clear hr3
          go_wp2_with fail
          go_at_call 62
          refine (take_is _ [99, 111, 110, 106] rfl 4 rfl (by decide) w0 wb _ s hs i hil out true HB4.out (.inr HT3.out)).mono ?_
          rintro e w4 ⟨rfl, hr4⟩
          have HT4 := Lib.hid hr4
          clear hr4
          go_wp2_with fail
          go_at_call 64
          refine Calls.mono (show Calls Tryd.prog 64 #[.pointer (some ⟨w0.heap.size, 0, none⟩), .int .i64 5] _ (WordEnd w0 wb s (skip s i + 4) out r) from HIH.out f hf (.word 5) (skip s i + 4) out r HX.out wb _ HT4.out (by omega)) ?_
          rintro e v2 hr
          have HE := Lib.hid (word_rd (i := i) hr (by omega))
          obtain ⟨rfl, _⟩ := hr
          go_wp2
          first
            | refine bodyPost_end (results_none rfl _ _ _) rfl ⟨rfl, HE.out⟩
            | refine bodyPost_ret (results_none rfl _ _ _) rfl ⟨rfl, HE.out⟩
        case false =>
          cases hb5 : stands s i [114, 101]
          case true =>
            rw [hb1, hb2, hb3, hb4, hb5] at hp2
            have hle := stands_le hil hb5
            have hle : skip s i + 2 ≤ s.length := hle
            have HB1 := Lib.hid hb1
            have HB2 := Lib.hid hb2
            have HB3 := Lib.hid hb3
            have HB4 := Lib.hid hb4
            have HB5 := Lib.hid hb5
            clear hb1 hb2 hb3 hb4 hb5
            have HX := Lib.hid (show prs s f (.word 6) (skip s i + 2) out = some r from hp2)
            clear hp2
            go_enter Tryd.func41, Tryd.ntmps41
            go_wp2_with fail
            go_at_call 62
            refine (take_is _ [43] rfl 1 rfl (by decide) w0 wb _ s hs i hil out false HB1.out (.inl H.out)).mono ?_
            rintro e w1 ⟨rfl, hr1⟩
            have HT1 := Lib.hid hr1
            clear hr1
            go_wp2_with fail
            go_at_call 62
            refine (take_is _ [45] rfl 1 rfl (by decide) w0 wb _ s hs i hil out false HB2.out (.inr HT1.out)).mono ?_
            rintro e w2 ⟨rfl, hr2⟩
            have HT2 := Lib.hid hr2
            clear hr2
            go_wp2_with fail
            go_at_call 62
            refine (take_is _ [40] rfl 1 rfl (by decide) w0 wb _ s hs i hil out false HB3.out (.inr HT2.out)).mono ?_
            rintro e w3 ⟨rfl, hr3⟩
            have HT3 := Lib.hid hr3
            clear hr3
            go_wp2_with fail
            go_at_call 62
            refine (take_is _ [99, 111, 110, 106] rfl 4 rfl (by decide) w0 wb _ s hs i hil out false HB4.out (.inr HT3.out)).mono ?_
            rintro e w4 ⟨rfl, hr4⟩
            have HT4 := Lib.hid hr4
            clear hr4
            go_wp2_with fail
            go_at_call 62
            refine (take_is _ [114, 101] rfl 2 rfl (by decide) w0 wb _ s hs i hil out true HB5.out (.inr HT4.out)).mono ?_
            rintro e w5 ⟨rfl, hr5⟩
            have HT5 := Lib.hid hr5
            clear hr5
            go_wp2_with fail
            go_at_call 64
            refine Calls.mono (show Calls Tryd.prog 64 #[.pointer (some ⟨w0.heap.size, 0, none⟩), .int .i64 6] _ (WordEnd w0 wb s (skip s i + 2) out r) from HIH.out f hf (.word 6) (skip s i + 2) out r HX.out wb _ HT5.out (by omega)) ?_
            rintro e v2 hr
            have HE := Lib.hid (word_rd (i := i) hr (by omega))
            obtain ⟨rfl, _⟩ := hr
            go_wp2
            first
              | refine bodyPost_end (results_none rfl _ _ _) rfl ⟨rfl, HE.out⟩
              | refine bodyPost_ret (results_none rfl _ _ _) rfl ⟨rfl, HE.out⟩
          case false =>
            cases hb6 : stands s i [105, 109]
            case true =>
              rw [hb1, hb2, hb3, hb4, hb5, hb6] at hp2
              have hle := stands_le hil hb6
              have hle : skip s i + 2 ≤ s.length := hle
              have HB1 := Lib.hid hb1
              have HB2 := Lib.hid hb2
              have HB3 := Lib.hid hb3
              have HB4 := Lib.hid hb4
              have HB5 := Lib.hid hb5
              have HB6 := Lib.hid hb6
              clear hb1 hb2 hb3 hb4 hb5 hb6
              have HX := Lib.hid (show prs s f (.word 7) (skip s i + 2) out = some r from hp2)
              clear hp2
              go_enter Tryd.func41, Tryd.ntmps41
              go_wp2_with fail
              go_at_call 62
              refine (take_is _ [43] rfl 1 rfl (by decide) w0 wb _ s hs i hil out false HB1.out (.inl H.out)).mono ?_
              rintro e w1 ⟨rfl, hr1⟩
              have HT1 := Lib.hid hr1
              clear hr1
              go_wp2_with fail
              go_at_call 62
              refine (take_is _ [45] rfl 1 rfl (by decide) w0 wb _ s hs i hil out false HB2.out (.inr HT1.out)).mono ?_
              rintro e w2 ⟨rfl, hr2⟩
              have HT2 := Lib.hid hr2
              clear hr2
              go_wp2_with fail
              go_at_call 62
              refine (take_is _ [40] rfl 1 rfl (by decide) w0 wb _ s hs i hil out false HB3.out (.inr HT2.out)).mono ?_
              rintro e w3 ⟨rfl, hr3⟩
              have HT3 := Lib.hid hr3
              clear hr3
              go_wp2_with fail
              go_at_call 62
              refine (take_is _ [99, 111, 110, 106] rfl 4 rfl (by decide) w0 wb _ s hs i hil out false HB4.out (.inr HT3.out)).mono ?_
              rintro e w4 ⟨rfl, hr4⟩
              have HT4 := Lib.hid hr4
              clear hr4
              go_wp2_with fail
              go_at_call 62
              refine (take_is _ [114, 101] rfl 2 rfl (by decide) w0 wb _ s hs i hil out false HB5.out (.inr HT4.out)).mono ?_
              rintro e w5 ⟨rfl, hr5⟩
              have HT5 := Lib.hid hr5
              clear hr5
              go_wp2_with fail
              go_at_call 62
              refine (take_is _ [105, 109] rfl 2 rfl (by decide) w0 wb _ s hs i hil out true HB6.out (.inr HT5.out)).mono ?_
              rintro e w6 ⟨rfl, hr6⟩
              have HT6 := Lib.hid hr6
              clear hr6
              go_wp2_with fail
              go_at_call 64
              refine Calls.mono (show Calls Tryd.prog 64 #[.pointer (some ⟨w0.heap.size, 0, none⟩), .int .i64 7] _ (WordEnd w0 wb s (skip s i + 2) out r) from HIH.out f hf (.word 7) (skip s i + 2) out r HX.out wb _ HT6.out (by omega)) ?_
              rintro e v2 hr
              have HE := Lib.hid (word_rd (i := i) hr (by omega))
              obtain ⟨rfl, _⟩ := hr
              go_wp2
              first
                | refine bodyPost_end (results_none rfl _ _ _) rfl ⟨rfl, HE.out⟩
                | refine bodyPost_ret (results_none rfl _ _ _) rfl ⟨rfl, HE.out⟩
            case false =>
              cases hb7 : stands s i [115]
              case true =>
                rw [hb1, hb2, hb3, hb4, hb5, hb6, hb7] at hp2
                have hle := stands_le hil hb7
                have hle : skip s i + 1 ≤ s.length := hle
                have HB1 := Lib.hid hb1
                have HB2 := Lib.hid hb2
                have HB3 := Lib.hid hb3
                have HB4 := Lib.hid hb4
                have HB5 := Lib.hid hb5
                have HB6 := Lib.hid hb6
                have HB7 := Lib.hid hb7
                clear hb1 hb2 hb3 hb4 hb5 hb6 hb7
                have HRR := Lib.hid (show slotP s (skip s i + 1) out = r from Option.some.inj hp2)
                clear hp2
                go_enter Tryd.func41, Tryd.ntmps41
                go_wp2_with fail
                go_at_call 62
                refine (take_is _ [43] rfl 1 rfl (by decide) w0 wb _ s hs i hil out false HB1.out (.inl H.out)).mono ?_
                rintro e w1 ⟨rfl, hr1⟩
                have HT1 := Lib.hid hr1
                clear hr1
                go_wp2_with fail
                go_at_call 62
                refine (take_is _ [45] rfl 1 rfl (by decide) w0 wb _ s hs i hil out false HB2.out (.inr HT1.out)).mono ?_
                rintro e w2 ⟨rfl, hr2⟩
                have HT2 := Lib.hid hr2
                clear hr2
                go_wp2_with fail
                go_at_call 62
                refine (take_is _ [40] rfl 1 rfl (by decide) w0 wb _ s hs i hil out false HB3.out (.inr HT2.out)).mono ?_
                rintro e w3 ⟨rfl, hr3⟩
                have HT3 := Lib.hid hr3
                clear hr3
                go_wp2_with fail
                go_at_call 62
                refine (take_is _ [99, 111, 110, 106] rfl 4 rfl (by decide) w0 wb _ s hs i hil out false HB4.out (.inr HT3.out)).mono ?_
                rintro e w4 ⟨rfl, hr4⟩
                have HT4 := Lib.hid hr4
                clear hr4
                go_wp2_with fail
                go_at_call 62
                refine (take_is _ [114, 101] rfl 2 rfl (by decide) w0 wb _ s hs i hil out false HB5.out (.inr HT4.out)).mono ?_
                rintro e w5 ⟨rfl, hr5⟩
                have HT5 := Lib.hid hr5
                clear hr5
                go_wp2_with fail
                go_at_call 62
                refine (take_is _ [105, 109] rfl 2 rfl (by decide) w0 wb _ s hs i hil out false HB6.out (.inr HT5.out)).mono ?_
                rintro e w6 ⟨rfl, hr6⟩
                have HT6 := Lib.hid hr6
                clear hr6
                go_wp2_with fail
                go_at_call 62
                refine (take_is _ [115] rfl 1 rfl (by decide) w0 wb _ s hs i hil out true HB7.out (.inr HT6.out)).mono ?_
                rintro e w7 ⟨rfl, hr7⟩
                have HT7 := Lib.hid hr7
                clear hr7
                obtain ⟨p, hp⟩ : ∃ p, skip s i + 1 = p := ⟨_, rfl⟩
                have HT8 : Hid (Rd w0 wb s w7 p out false) := Lib.hid (hp ▸ HT7.out)
                have HP := Lib.hid hp
                rw [hp] at hle
                have HSP : Hid (slotP s p out = r) := Lib.hid (hp ▸ HRR.out)
                clear hp
                obtain ⟨p0, p1, p3, l1, l2, l3⟩ := HT8.out.cells
                have hip : i + 1 ≤ p := by have := HP.out; omega
                by_cases hpl : p < s.length
                · have c1 : ((p : Int) == (s.length : Int)) = false := beq_eq_false_iff_ne.2 (by omega)
                  have c2 : (p : Int) < (s.length : Int) := by omega
                  have hsz : p < (⟨s.toArray⟩ : ByteArray).size := by simpa [ByteArray.size] using hpl
                  obtain ⟨x, hx⟩ : ∃ x : Nat, ((⟨s.toArray⟩ : ByteArray)[p]'hsz).toNat = x := ⟨_, rfl⟩
                  have hxs : s[p].toNat = x := by rw [← hx]; rfl
                  obtain ⟨q, hq⟩ : ∃ q, (decide (48 ≤ x) && decide (x ≤ 57)) = q := ⟨_, rfl⟩
                  have HQ := Lib.hid hq
                  have hfig : isFig s[p] = q := by unfold isFig; rw [hxs]; exact hq
                  have hget : s[p]? = some s[p] := List.getElem?_eq_getElem hpl
                  cases q
                  · have HN := Lib.hid (show r = none by rw [← HSP.out]; exact slotP_no (fun c hc => by rw [hget] at hc; have := Option.some.inj hc; rw [← this]; exact hfig))
                    have HF := Lib.hid (fun m => (HT8.out.drewN m).setFail)
                    clear hq hfig hget hxs
                    go_upto_region 18 with fail
                    go_quiet ((go_at_call 65; exact Calls.quiet_of_same (isDigit_is x false _ HQ.out)))
                    go_wp2
                    first
                      | refine bodyPost_end (results_none rfl _ _ _) rfl ⟨rfl, rd_no (HF.out _) (by omega) (by omega) HN.out⟩
                      | refine bodyPost_ret (results_none rfl _ _ _) rfl ⟨rfl, rd_no (HF.out _) (by omega) (by omega) HN.out⟩
                  · have HN := Lib.hid (show r = some (p + 1, out ++ [⟨2, (x : Int) - 48, 0, 0⟩]) by rw [← HSP.out, slotP_yes hget hfig, hxs])
                    have hx2 : 48 ≤ x ∧ x ≤ 57 := by simpa using hq
                    have hw8 : IntKind.u8.wrap ((x : Int) - 48) = (x : Int) - 48 := by
                      have h1 : IntKind.u8.wrap ((x : Int) - 48) = ((x : Int) - 48) % 256 := rfl
                      rw [h1]; omega
                    have hw64 : IntKind.i64.wrap ((x : Int) - 48) = (x : Int) - 48 := by rw [IntKind.wrap_i64]; omega
                    clear hq hfig hget hxs
                    obtain ⟨i0, hii, hz0, hz1, hz2⟩ := info_parts A_infoN
                    go_upto_region 18 with fail
                    go_quiet ((go_at_call 65; exact Calls.quiet_of_same (isDigit_is x true _ HQ.out)))
                    go_wp2_with fail
                    have hT9 := HT8.out.drewN nq
                    generalize w7.drewN nq = W at hT9 ⊢
                    have HT9 := Lib.hid hT9
                    clear p0 p1 p3 l1 l2 l3
                    obtain ⟨v, hbW, hOW, _, hLW, hFW⟩ := hT9
                    have HBW := Lib.hid hbW
                    have HOW := Lib.hid hOW
                    have HLW := Lib.hid hLW
                    have HFW := Lib.hid hFW
                    have hltW := hbW.lt
                    have hszW := hLW.size
                    have b0 := hbW.cell 0
                    have b1 := hbW.cell 1
                    have b2 := hbW.cell 2
                    have fr2 := hbW.frozen 2
                    have HBA := Lib.hid (hbW.alloc (.cells #[.int .i64 2, .int .i64 ((x : Int) - 48), .complex .f64 0 0] 43))
                    have b2' := HBA.out.cell 2
                    clear hbW hOW hLW hFW
                    go_region_law
                      ((refine step_append_lies _ (by rfl) _ _ 24 (by rfl) (w0.heap.size + 1) 43 i0 (.agg #[.int .i64 0, .int .i64 0, .complex .f64 0 0]) 3 32 Tryd.underlying24 hii hz0 hz1 hz2 rfl (by decide) _ _ _ (by rfl) (own_below HOW.out (bl_alloc (Below.drew (Below.refl _ W)) _)) ⟨W.heap.size, 0, none⟩ 1 1 (ndCells ⟨2, (x : Int) - 48, 0, 0⟩) (by rfl) (by rfl) (nd_news W.drew ⟨2, (x : Int) - 48, 0, 0⟩) (nd_one' _) (by decide) (by unfold maxLen; omega) (by omega) (show w0.heap.size + 1 ≤ (W.alloc _).heap.size by rw [World.size_alloc]; omega) _ (by rfl) ?_; intro g' cap' w9 hown' hgrow hlies _; have HB9 := Lib.hid (blk_grown ((show Blk W.drew w0.heap.size _ _ from HBW.out).alloc _) hgrow (fun hj => by have := (HOW.out.lt _ hj.symm).1; omega)); have q9 := HB9.out.cell 2; have f9 := HB9.out.frozen 2; have HNN := Lib.hid (rd_app (x := ⟨2, (x : Int) - 48, 0, 0⟩) (w := W.drew) HBW.out HOW.out HT9.out.le (bl_drew HLW.out) HFW.out.drew rfl rfl hown' hgrow (by simpa using hlies)); clear hown' hgrow hlies))
                    all_goals
                      obtain ⟨y0, y1, y3, z1, z2, z3⟩ := HNN.out.cells
                      have HNE := Lib.hid (HNN.out.setAt' (z := (p : Int) + 1) (j := p + 1) (by simp) hpl)
                      go_wp2
                      first
                        | refine bodyPost_end (results_none rfl _ _ _) rfl ⟨rfl, rd_some HN.out HNE.out (by omega) (by simp; omega)⟩
                        | refine bodyPost_ret (results_none rfl _ _ _) rfl ⟨rfl, rd_some HN.out HNE.out (by omega) (by simp; omega)⟩
                · have c1 : ((p : Int) == (s.length : Int)) = true := beq_iff_eq.2 (by have := HT8.out.le; omega)
                  have HN := Lib.hid (show r = none by rw [← HSP.out]; exact slotP_no (fun c hc => by rw [List.getElem?_eq_none (by omega)] at hc; cases hc))
                  have HF := Lib.hid (fun m => (HT8.out.drewN m).setFail)
                  go_upto_region 18 with fail
                  go_quiet (fail)
                  go_wp2
                  first
                    | refine bodyPost_end (results_none rfl _ _ _) rfl ⟨rfl, rd_no (HF.out _) (by omega) (by omega) HN.out⟩
                    | refine bodyPost_ret (results_none rfl _ _ _) rfl ⟨rfl, rd_no (HF.out _) (by omega) (by omega) HN.out⟩
              case false =>
                rw [hb1, hb2, hb3, hb4, hb5, hb6, hb7] at hp2
                have HRR := Lib.hid (show numF s (skip s i) out = r from Option.some.inj hp2)
                have HB1 := Lib.hid hb1
                have HB2 := Lib.hid hb2
                have HB3 := Lib.hid hb3
                have HB4 := Lib.hid hb4
                have HB5 := Lib.hid hb5
                have HB6 := Lib.hid hb6
                have HB7 := Lib.hid hb7
                clear hp2 hb1 hb2 hb3 hb4 hb5 hb6 hb7
                go_enter Tryd.func41, Tryd.ntmps41
                go_wp2_with fail
                go_at_call 62
                refine (take_is _ [43] rfl 1 rfl (by decide) w0 wb _ s hs i hil out false HB1.out (.inl H.out)).mono ?_
                rintro e w1 ⟨rfl, hr1⟩
                have HT1 := Lib.hid hr1
                clear hr1
                go_wp2_with fail
                go_at_call 62
                refine (take_is _ [45] rfl 1 rfl (by decide) w0 wb _ s hs i hil out false HB2.out (.inr HT1.out)).mono ?_
                rintro e w2 ⟨rfl, hr2⟩
                have HT2 := Lib.hid hr2
                clear hr2
                go_wp2_with fail
                go_at_call 62
                refine (take_is _ [40] rfl 1 rfl (by decide) w0 wb _ s hs i hil out false HB3.out (.inr HT2.out)).mono ?_
                rintro e w3 ⟨rfl, hr3⟩
                have HT3 := Lib.hid hr3
                clear hr3
                go_wp2_with fail
                go_at_call 62
                refine (take_is _ [99, 111, 110, 106] rfl 4 rfl (by decide) w0 wb _ s hs i hil out false HB4.out (.inr HT3.out)).mono ?_
                rintro e w4 ⟨rfl, hr4⟩
                have HT4 := Lib.hid hr4
                clear hr4
                go_wp2_with fail
                go_at_call 62
                refine (take_is _ [114, 101] rfl 2 rfl (by decide) w0 wb _ s hs i hil out false HB5.out (.inr HT4.out)).mono ?_
                rintro e w5 ⟨rfl, hr5⟩
                have HT5 := Lib.hid hr5
                clear hr5
                go_wp2_with fail
                go_at_call 62
                refine (take_is _ [105, 109] rfl 2 rfl (by decide) w0 wb _ s hs i hil out false HB6.out (.inr HT5.out)).mono ?_
                rintro e w6 ⟨rfl, hr6⟩
                have HT6 := Lib.hid hr6
                clear hr6
                go_wp2_with fail
                go_at_call 62
                refine (take_is _ [115] rfl 1 rfl (by decide) w0 wb _ s hs i hil out false HB7.out (.inr HT6.out)).mono ?_
                rintro e w7 ⟨rfl, hr7⟩
                have HT7 := Lib.hid hr7
                clear hr7
                go_wp2_with fail
                go_at_call 66
                refine (number_any w0 wb _ htab s hs (skip s i) out HT7.out (by omega)).mono ?_
                rintro e v2 ⟨rfl, hr⟩
                have HE : Hid (RdR w0 wb s v2 i out r) := Lib.hid (rdr_more (HRR.out ▸ hr) hge)
                clear hr
                go_wp2
                first
                  | refine bodyPost_end (results_none rfl _ _ _) rfl ⟨rfl, HE.out⟩
                  | refine bodyPost_ret (results_none rfl _ _ _) rfl ⟨rfl, HE.out⟩
end Go.Proofs.YtjgjgjkffoagoaaDoor
