/- The reader of expressions walked: a factor, a word. Condition: the table of powers of ten is laid. (printed by genrdf.py) -/
import Derived.Test.YtjgjgjkffoagoaaDoorRdE
namespace Go.Proofs.YtjgjgjkffoagoaaDoor
open Go.RowKit
attribute [local go_sem] run_store_float run_store_complex
set_option maxRecDepth 100000
set_option maxHeartbeats 2000000
set_option linter.unusedVariables false
set_option linter.unusedSimpArgs false

theorem stands_skip {s : List UInt8} {i : Nat} (hi : i ≤ s.length) (t : List UInt8) : stands s (skip s i) t = stands s i t := by
  unfold stands
  rw [skip_idem hi]
def TakeI (w0 wb : World) (s : List UInt8) (i : Nat) (out : List Nd) (n : Nat) (b : Bool) (e : Ending) (w' : World) : Prop := e = .returned (.bool b) ∧ Rd w0 wb s w' (if b then skip s i + n else skip s i) out false
theorem take_is (sb : ByteArray) (t : List UInt8) (hsb : sb = ⟨t.toArray⟩) (n : Nat) (hn : t.length = n) (ht : n ≤ 1000) (w0 wb w : World) (s : List UInt8) (hs : s.length ≤ 1000000) (i : Nat) (hi : i ≤ s.length) (out : List Nd) (b : Bool) (hb : stands s i t = b) (h : Rd w0 wb s w i out false ∨ Rd w0 wb s w (skip s i) out false) :
    Calls Tryd.prog 62 #[.pointer (some ⟨w0.heap.size, 0, none⟩), .string sb] w (TakeI w0 wb s i out n b) := by
  subst hsb hn
  rcases h with h | h
  · refine (take_any t ht w0 wb w s hs i out false h).mono ?_
    rintro e w' ⟨h1, h2⟩
    rw [hb] at h1 h2
    exact ⟨h1, h2⟩
  · refine (take_any t ht w0 wb w s hs (skip s i) out false h).mono ?_
    rintro e w' ⟨h1, h2⟩
    rw [stands_skip hi, hb, skip_idem hi] at h2
    rw [stands_skip hi, hb] at h1
    exact ⟨h1, h2⟩
theorem want_is (sb : ByteArray) (c : UInt8) (hsb : sb = ⟨#[c]⟩) (w0 wb w : World) (s : List UInt8) (hs : s.length ≤ 1000000) (i : Nat) (out : List Nd) (f : Bool) (h : Rd w0 wb s w i out f) :
    Calls Tryd.prog 63 #[.pointer (some ⟨w0.heap.size, 0, none⟩), .string sb] w (WantEnd w0 wb s i out f [c]) := by
  subst hsb
  exact want_any [c] (by simp) w0 wb w s hs i out f h
theorem thenP_some {X : Option (Option St)} {g : Nat → List Nd → Option (Option St)} {r : Option St} (h : thenP X g = some r) : ∃ x, X = some x ∧ ((x = none ∧ r = none) ∨ ∃ i2 o2, x = some (i2, o2) ∧ g i2 o2 = some r) := by
  cases X with
  | none => cases h
  | some x =>
    refine ⟨x, rfl, ?_⟩
    cases x with
    | none => exact .inl ⟨rfl, (Option.some.inj h).symm⟩
    | some p => exact .inr ⟨p.1, p.2, rfl, h⟩
theorem level_walk3 (w0 : World) (s : List UInt8) (F : Nat) (IH : IHs w0 s F) (i : Nat) (out : List Nd) (r : Option St) (hp : prs s F (.lev 3) i out = some r) (wb w : World) (h : Rd w0 wb s w i out false) (hlen : out.length ≤ i) :
    Calls Tryd.prog 24 #[.pointer (some ⟨w0.heap.size, 0, none⟩), .int .i64 3] w (RdEnd w0 wb s i out r) := by
  obtain ⟨f, hf, hp2⟩ : ∃ f, f < F ∧ prs s f .fac i out = some r := by
    cases F with
    | zero => cases hp
    | succ f => exact ⟨f, Nat.lt_succ_self f, hp⟩
  have HC := Lib.hid (IH f hf .fac i out r hp2 wb w h hlen)
  clear IH hp hp2 h
  go_enter Tryd.func24, Tryd.ntmps24
  go_wp2_with fail
  go_at_call 41
  refine Calls.mono (show Calls Tryd.prog 41 #[.pointer (some ⟨w0.heap.size, 0, none⟩)] w (RdEnd w0 wb s i out r) from HC.out) ?_
  rintro e w1 ⟨rfl, hr⟩
  have HR := Lib.hid hr
  clear hr
  go_wp2
  first
    | refine bodyPost_end (results_none rfl _ _ _) rfl ⟨rfl, HR.out⟩
    | refine bodyPost_ret (results_none rfl _ _ _) rfl ⟨rfl, HR.out⟩
theorem word_walk (w0 : World) (s : List UInt8) (hs : s.length ≤ 1000000) (F : Nat) (IH : IHs w0 s F) (k : Int) (i : Nat) (out : List Nd) (r : Option St) (hp : prs s F (.word k) i out = some r) (wb w : World) (h : Rd w0 wb s w i out false) (hlen : out.length ≤ i) :
    Calls Tryd.prog 64 #[.pointer (some ⟨w0.heap.size, 0, none⟩), .int .i64 k] w (WordEnd w0 wb s i out r) := by
  have hil := h.le
  have H := Lib.hid h
  have HIH := Lib.hid IH
  obtain ⟨f, hf, hp2⟩ : ∃ f, f < F ∧ (if stands s i [40] then thenP (prs s f (.lev 0) (skip s i + 1) out) (shutP s [nd k]) else some none) = some r := by
    cases F with
    | zero => cases hp
    | succ f => exact ⟨f, Nat.lt_succ_self f, hp⟩
  have hge := skip_ge s i
  clear h IH hp
  cases hq : stands s i [40]
  · rw [hq] at hp2
    have hr := (Option.some.inj hp2).symm
    subst hr
    have HQ := Lib.hid hq
    clear hp2 hq
    go_enter Tryd.func64, Tryd.ntmps64
    go_wp2_with fail
    go_at_call 63
    refine (want_is _ 40 rfl w0 wb _ s hs i out false H.out).mono ?_
    rintro e w1 ⟨rfl, hr1⟩
    rw [HQ.out] at hr1
    have HR1 := Lib.hid (show Rd w0 wb s w1 (skip s i) out true from hr1)
    clear hr1
    go_wp2_with fail
    go_at_call 24
    refine (level_fail0 w0 wb _ s _ out HR1.out).mono ?_
    rintro e w2 ⟨rfl, hr2⟩
    obtain ⟨i2, o2, h2, h2i, h2o⟩ := hr2.fail
    have HR2 := Lib.hid h2
    have hl2 := h2.le
    clear hr2 h2
    go_wp2_with fail
    go_at_call 63
    refine (want_is _ 41 rfl w0 wb _ s hs i2 o2 true HR2.out).mono ?_
    rintro e w3 ⟨rfl, hr3⟩
    have hge2 := skip_ge s i2
    have HR3 := Lib.hid (show Rd w0 wb s w3 (if stands s i2 [41] then skip s i2 + 1 else skip s i2) o2 true from hr3)
    clear hr3
    go_wp2_with fail
    go_at_call 43
    refine (put_any k w0 wb _ s _ o2 _ (by omega) HR3.out).mono ?_
    rintro e w4 ⟨rfl, hr4⟩
    have HE : Hid (WordEnd w0 wb s i out none (.returned (.tuple #[])) w4) := Lib.hid ⟨rfl, _, _, hr4, fun p hp => (by cases hp), by split <;> omega, by simp; split <;> omega⟩
    clear hr4
    go_wp2
    first
      | refine bodyPost_end (results_none rfl _ _ _) rfl HE.out
      | refine bodyPost_ret (results_none rfl _ _ _) rfl HE.out
  · rw [hq] at hp2
    obtain ⟨x, hx, hor⟩ := thenP_some (show thenP (prs s f (.lev 0) (skip s i + 1) out) (shutP s [nd k]) = some r from hp2)
    have HQ := Lib.hid hq
    have HX := Lib.hid hx
    have HOR := Lib.hid hor
    clear hp2 hq hx hor
    go_enter Tryd.func64, Tryd.ntmps64
    go_wp2_with fail
    go_at_call 63
    refine (want_is _ 40 rfl w0 wb _ s hs i out false H.out).mono ?_
    rintro e w1 ⟨rfl, hr1⟩
    rw [HQ.out] at hr1
    have HR1 := Lib.hid (show Rd w0 wb s w1 (skip s i + 1) out false from hr1)
    clear hr1
    go_wp2_with fail
    go_at_call 24
    refine (HIH.out f hf (.lev 0) (skip s i + 1) out x HX.out wb _ HR1.out (by omega) (by decide)).mono ?_
    rintro e w2 ⟨rfl, hr2⟩
    obtain ⟨i2, o2, h2, h2p, h2i, h2o⟩ := hr2
    have HR2 := Lib.hid h2
    have HP2 := Lib.hid h2p
    have hl2 := h2.le
    clear h2 h2p
    go_wp2_with fail
    go_at_call 63
    refine (want_is _ 41 rfl w0 wb _ s hs i2 o2 _ HR2.out).mono ?_
    rintro e w3 ⟨rfl, hr3⟩
    have HR3 := Lib.hid hr3
    clear hr3
    go_wp2_with fail
    go_at_call 43
    refine (put_any k w0 wb _ s _ o2 _ (by omega) HR3.out).mono ?_
    rintro e w4 ⟨rfl, hr4⟩
    have HE : Hid (WordEnd w0 wb s i out r (.returned (.tuple #[])) w4) := Lib.hid (by
      have hge2 := skip_ge s i2
      refine ⟨rfl, ?_⟩
      rcases HOR.out with ⟨h1, h2⟩ | ⟨i3, o3, h1, h2⟩
      · subst h1 h2
        exact ⟨_, _, hr4, fun p hp => (by cases hp), by split <;> omega, by simp; split <;> omega⟩
      · subst h1
        have h3 := HP2.out _ rfl
        cases h3
        unfold shutP at h2
        cases hq : stands s i2 [41]
        · rw [hq] at h2 hr4
          have := Option.some.inj h2
          subst this
          exact ⟨_, _, hr4, fun p hp => (by cases hp), by simp; omega, by simp; omega⟩
        · rw [hq] at h2 hr4
          have := Option.some.inj h2
          subst this
          exact ⟨_, _, hr4, fun p hp => (Option.some.inj hp).symm, by simp; omega, by simp; omega⟩)
    clear hr4
    go_wp2
    first
      | refine bodyPost_end (results_none rfl _ _ _) rfl HE.out
      | refine bodyPost_ret (results_none rfl _ _ _) rfl HE.out
end Go.Proofs.YtjgjgjkffoagoaaDoor
