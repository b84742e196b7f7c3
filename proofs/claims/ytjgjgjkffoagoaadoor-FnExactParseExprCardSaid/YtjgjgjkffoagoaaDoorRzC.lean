/- The reference's reader of expressions walked: its functions come to what the plain reader says, or tell that it fails or reads more than 60 nodes. No condition. (printed by genrzc.py) -/
import Derived.Test.YtjgjgjkffoagoaaDoorRzP
import Derived.Deep.RegionHeld3
namespace Go.Proofs.YtjgjgjkffoagoaaDoor
open Go.RowKit
attribute [local go_sem] run_store_float run_store_complex
set_option maxRecDepth 100000
set_option maxHeartbeats 4000000
set_option linter.unusedVariables false
set_option linter.unusedSimpArgs false

/-- What each function is to come to. -/
def CZ (w0 : World) (s : List UInt8) : Md → World → Nat → List Nd → Option St → Prop
  | .fac, w, i, out, r => Calls Tryd.prog 86 #[.pointer (some ⟨w0.heap.size, 0, none⟩)] w (RzEnd w0 s i out false r)
  | .lev 0, w, i, out, r => Calls Tryd.prog 27 #[.pointer (some ⟨w0.heap.size, 0, none⟩)] w (RzEnd w0 s i out false r)
  | .lev 1, w, i, out, r => Calls Tryd.prog 45 #[.pointer (some ⟨w0.heap.size, 0, none⟩)] w (RzEnd w0 s i out false r)
  | .lev 2, w, i, out, r => Calls Tryd.prog 68 #[.pointer (some ⟨w0.heap.size, 0, none⟩)] w (RzEnd w0 s i out false r)
  | .lev 3, w, i, out, r => Calls Tryd.prog 86 #[.pointer (some ⟨w0.heap.size, 0, none⟩)] w (RzEnd w0 s i out false r)
  | .lev _, _, _, _, _ => True
  | .loop _, _, _, _, _ => True
  | .word _, _, _, _, _ => True
def IHz (w0 : World) (s : List UInt8) (F : Nat) : Prop := ∀ f', f' < F → ∀ md i out r, prs s f' md i out = some r → MdOk md → ∀ w, Rz w0 s w i out false → out.length ≤ i → out.length ≤ 60 → CZ w0 s md w i out r
theorem next_good (B : Nat) (w0 w : World) (s : List UInt8) (hs : s.length ≤ 1000000) (i : Nat) (out : List Nd) (hB : nextB s i = B) (h : Rz w0 s w i out false) :
    Calls Tryd.prog 28 #[.pointer (some ⟨w0.heap.size, 0, none⟩)] w fun e w' => e = .returned (.int .u8 (B : Int)) ∧ Rz w0 s w' (skip s i) out false := by
  subst hB
  exact next_any w0 w s hs i out false h
theorem wordS_no (B : ByteArray) (c : UInt8) (t' : List UInt8) (hB : B = ⟨(c :: t').toArray⟩) (hc0 : c ≠ 0) (ht : (c :: t').length ≤ 1000) (w0 w : World) (s : List UInt8) (hs : s.length ≤ 1000000) (i : Nat) (hil : i ≤ s.length) (out : List Nd) (f : Bool) (hst : (!f && stands s i (c :: t')) = false) (h : Rz w0 s w i out f ∨ Rz w0 s w (skip s i) out f) :
    Calls Tryd.prog 46 #[.pointer (some ⟨w0.heap.size, 0, none⟩), .string B] w fun e w' => e = .returned (.bool false) ∧ Rz w0 s w' (skip s i) out f := by
  subst hB
  rcases h with h | h
  · refine (wordS_any c t' hc0 ht w0 w s hs i out f h).mono ?_
    rintro e w' ⟨he, hr⟩
    rw [hst] at he hr
    exact ⟨he, hr⟩
  · have hst2 : (!f && stands s (skip s i) (c :: t')) = false := by
      rw [← hst]; unfold stands; rw [skip_idem hil]
    refine (wordS_any c t' hc0 ht w0 w s hs (skip s i) out f h).mono ?_
    rintro e w' ⟨he, hr⟩
    rw [hst2] at he hr
    refine ⟨he, ?_⟩
    have : Rz w0 s w' (skip s (skip s i)) out f := hr
    rwa [skip_idem hil] at this
theorem wordS_yes (B : ByteArray) (c : UInt8) (t' : List UInt8) (hB : B = ⟨(c :: t').toArray⟩) (hc0 : c ≠ 0) (ht : (c :: t').length ≤ 1000) (w0 w : World) (s : List UInt8) (hs : s.length ≤ 1000000) (i : Nat) (hil : i ≤ s.length) (out : List Nd) (hst : stands s i (c :: t') = true) (h : Rz w0 s w i out false ∨ Rz w0 s w (skip s i) out false) (n : Nat) (hn : n = skip s i + (c :: t').length) :
    Calls Tryd.prog 46 #[.pointer (some ⟨w0.heap.size, 0, none⟩), .string B] w fun e w' => e = .returned (.bool true) ∧ Rz w0 s w' n out false := by
  subst hB hn
  rcases h with h | h
  · refine (wordS_any c t' hc0 ht w0 w s hs i out false h).mono ?_
    rintro e w' ⟨he, hr⟩
    rw [hst] at he hr
    exact ⟨he, hr⟩
  · have hst2 : stands s (skip s i) (c :: t') = true := by
      rw [← hst]; unfold stands; rw [skip_idem hil]
    refine (wordS_any c t' hc0 ht w0 w s hs (skip s i) out false h).mono ?_
    rintro e w' ⟨he, hr⟩
    rw [hst2] at he hr
    refine ⟨he, ?_⟩
    have : Rz w0 s w' (skip s (skip s i) + (c :: t').length) out false := hr
    rwa [skip_idem hil] at this
section
variable {w0 w w' : World} {s : List UInt8} {i j i' i1 : Nat} {out out' o1 : List Nd} {f f1 : Bool} {r r1 : Option St}
theorem rz_long (h : Rz w0 s w' i' out' true) (hi : i ≤ i') (ho : out'.length + i ≤ out.length + i') (hl : Long r) : RzR w0 s w' i out false r :=
  ⟨i', out', true, h, hi, ho, (fun h => by cases h), (fun _ => .inr hl)⟩
theorem rz_fine (h : Rz w0 s w' i' out' false) (hi : i ≤ i') (ho : out'.length + i ≤ out.length + i') (hr : r = some (i', out')) (h60 : out'.length ≤ 60) : RzR w0 s w' i out false r :=
  ⟨i', out', false, h, hi, ho, (fun _ => ⟨rfl, hr, h60⟩), (fun h => by cases h)⟩
theorem RzR.parts (h : RzR w0 s w' i out false r) : ∃ i' out' f', Rz w0 s w' i' out' f' ∧ i ≤ i' ∧ out'.length + i ≤ out.length + i' ∧ (f' = false → r = some (i', out') ∧ out'.length ≤ 60) ∧ (f' = true → Long r) := by
  obtain ⟨a, b, c, h1, h2, h3, h4, h5⟩ := h
  refine ⟨a, b, c, h1, h2, h3, fun h => (h4 h).2, fun h => ?_⟩
  rcases h5 h with h6 | h6
  · cases h6
  · exact h6
theorem RzR.from (h : RzR w0 s w' j out false r) (hj : i ≤ j) : RzR w0 s w' i out false r := by
  obtain ⟨a, b, c, h1, h2, h3, h4, h5⟩ := h
  exact ⟨a, b, c, h1, by omega, by omega, h4, h5⟩
theorem long_then {g : Nat → List Nd → Option (Option St)} (h : Long r1) (hn : r1 = none → r = none) (hs : ∀ i o, r1 = some (i, o) → g i o = some r) (hg : ∀ i o r, g i o = some r → 60 < o.length → Long r) : Long r := by
  rcases h with h | ⟨p, h, hl⟩
  · exact .inl (hn h)
  · exact hg p.1 p.2 r (hs p.1 p.2 h) hl
theorem long_shut {t : List Nd} (i : Nat) (o : List Nd) (r : Option St) (h : shutP s t i o = some r) (ho : 60 < o.length) : Long r := by
  unfold shutP at h
  split at h
  · obtain rfl := Option.some.inj h
    exact .inr ⟨_, rfl, by rw [List.length_append]; omega⟩
  · obtain rfl := Option.some.inj h
    exact .inl rfl
/-- A node behind what an inner function has come to. -/
theorem rz_put {k : Int} (hz : Rz w0 s w' i1 (o1 ++ [nd k]) (f1 || decide (60 < o1.length + 1))) (a : i + 1 ≤ i1) (b : o1.length + (i + 1) ≤ out.length + i1) (c : f1 = false → r1 = some (i1, o1) ∧ o1.length ≤ 60) (d : f1 = true → Long r1) (hn : r1 = none → r = none)
    (hs : ∀ i o, r1 = some (i, o) → some (some (i, o ++ [nd k])) = some r) : RzR w0 s w' i out false r := by
  cases f1
  · obtain ⟨c1, c2⟩ := c rfl
    have hr := (Option.some.inj (hs _ _ c1)).symm
    exact rz_some hr (by rw [List.length_append]; exact hz) (by omega) (by simp; omega)
  · have hl : Long r := by
      rcases d rfl with h | ⟨p, h, hl⟩
      · exact .inl (hn h)
      · have hr := (Option.some.inj (hs p.1 p.2 h)).symm
        exact .inr ⟨_, hr, by rw [List.length_append]; omega⟩
    exact rz_long (by rw [Bool.true_or] at hz; exact hz) (by omega) (by simp; omega) hl
end
theorem stands_none {s : List UInt8} {i : Nat} {c : UInt8} (t : List UInt8) (h : s[skip s i]? ≠ some c) : stands s i (c :: t) = false := by
  cases hb : stands s i (c :: t)
  · rfl
  · exfalso
    apply h
    rw [stands_take] at hb
    have h1 := beq_iff_eq.1 hb
    rcases Nat.lt_or_ge (skip s i) s.length with h2 | h2
    · rw [List.drop_eq_getElem_cons h2] at h1
      have h3 := (List.cons.inj (show s[skip s i] :: (s.drop (skip s i + 1)).take t.length = c :: t from h1)).1
      rw [List.getElem?_eq_getElem h2, h3]
    · rw [List.drop_eq_nil_of_le h2] at h1
      cases h1
theorem stands_head {s : List UInt8} {i : Nat} {c : UInt8} {t : List UInt8} (h : stands s i (c :: t) = true) : s[skip s i]? = some c := by
  rcases Classical.em (s[skip s i]? = some c) with h1 | h1
  · exact h1
  · rw [stands_none t h1] at h; cases h
theorem nextB_of {s : List UInt8} {i : Nat} {c : UInt8} (h : s[skip s i]? = some c) : nextB s i = c.toNat := by unfold nextB; rw [h]; rfl
theorem nextB_not {s : List UInt8} {i : Nat} {c : UInt8} (h : stands s i [c] = false) (hc : c ≠ 0) : nextB s i ≠ c.toNat := by
  intro hn
  rw [stands_one] at h
  have h1 : s[skip s i]? ≠ some c := fun h2 => by rw [h2] at h; simp at h
  unfold nextB at hn
  cases h2 : s[skip s i]? with
  | none =>
    rw [h2] at hn
    exact hc (UInt8.toNat_inj.1 (by rw [← hn]; rfl))
  | some x =>
    rw [h2] at hn h1
    exact h1 (congrArg some (UInt8.toNat_inj.1 hn))
/-- What stands in parentheses. -/
noncomputable def insP (s : List UInt8) (f : Nat) (i : Nat) (out : List Nd) : Option (Option St) := if stands s i [40] then thenP (prs s f (.lev 0) (skip s i + 1) out) (shutP s []) else some none
theorem insP_skip {s : List UInt8} {f i : Nat} {out : List Nd} (hil : i ≤ s.length) : insP s f (skip s i) out = insP s f i out := by
  unfold insP
  rw [skip_idem hil]
  have h : stands s (skip s i) [40] = stands s i [40] := by unfold stands; rw [skip_idem hil]
  rw [h]
theorem word_ins (s : List UInt8) (f : Nat) (k : Int) (i : Nat) (out : List Nd) : prs s (f + 1) (.word k) i out = thenP (insP s f i out) (fun i o => some (some (i, o ++ [nd k]))) := by
  unfold insP
  show (if stands s i [40] then thenP (prs s f (.lev 0) (skip s i + 1) out) (shutP s [nd k]) else some none) = _
  split
  · cases h : prs s f (.lev 0) (skip s i + 1) out with
    | none => rfl
    | some r =>
      cases r with
      | none => rfl
      | some p =>
        show shutP s [nd k] p.1 p.2 = thenP (shutP s [] p.1 p.2) _
        unfold shutP
        split
        · show _ = some (some (_, (p.2 ++ []) ++ [nd k]))
          rw [List.append_nil]
        · rfl
  · rfl
theorem inside_walk (w0 : World) (s : List UInt8) (hs : s.length ≤ 1000000) (f : Nat) (IH : IHz w0 s (f + 1)) (i : Nat) (out : List Nd) (r : Option St) (hp : insP s f i out = some r) (w : World) (h : Rz w0 s w i out false) (hlen : out.length ≤ i) (h60 : out.length ≤ 60) :
    Calls Tryd.prog 107 #[.pointer (some ⟨w0.heap.size, 0, none⟩)] w (RzEnd w0 s i out false r) := by
  have H := Lib.hid h
  have hil := h.le
  have hsg := skip_ge s i
  clear h
  unfold insP at hp
  cases hb : stands s i [40]
  · rw [hb] at hp
    have hr : r = none := (Option.some.inj hp).symm
    clear hp
    go_enter Tryd.func107, Tryd.ntmps107
    go_wp2_with fail
    go_at_call 46
    refine (wordS_no _ 40 [] rfl (by decide) (by decide) w0 _ s hs i hil out false (by rw [hb]; rfl) (.inl H.out)).mono ?_
    rintro e w1 ⟨rfl, hr1⟩
    obtain ⟨q0, q1, q2, f1, f2⟩ := hr1.cells
    have HB := Lib.hid hr1.setBad
    clear hr1
    go_wp2
    first
      | refine bodyPost_end (results_none rfl _ _ _) rfl ⟨rfl, rz_none hr HB.out hsg⟩
      | refine bodyPost_ret (results_none rfl _ _ _) rfl ⟨rfl, rz_none hr HB.out hsg⟩
  · rw [hb] at hp
    have hle := stands_le hil hb
    have hle' : skip s i + 1 ≤ s.length := by simpa using hle
    obtain ⟨r1, hp1, hn1, hs1⟩ := thenP_got (show thenP (prs s f (.lev 0) (skip s i + 1) out) (shutP s []) = some r from hp)
    have HW := Lib.hid (fun w' hw' => IH f (Nat.lt_succ_self f) (.lev 0) (skip s i + 1) out r1 hp1 (show 0 ≤ 3 by omega) w' hw' (by omega) h60)
    have HS := Lib.hid hs1
    have HN := Lib.hid hn1
    clear hp hs1 hn1
    go_enter Tryd.func107, Tryd.ntmps107
    go_wp2_with fail
    go_at_call 46
    refine (wordS_yes _ 40 [] rfl (by decide) (by decide) w0 _ s hs i hil out hb (.inl H.out) (skip s i + 1) rfl).mono ?_
    rintro e w1 ⟨rfl, hr1⟩
    have HR1 := Lib.hid hr1
    clear hr1
    go_wp2_with fail
    go_at_call 27
    refine (HW.out _ HR1.out).mono ?_
    rintro e w2 ⟨rfl, hr2⟩
    obtain ⟨i1, o1, f1, hz, a, b, c, d⟩ := hr2.parts
    have HZ := Lib.hid hz
    have hil1 := hz.le
    clear hr2 hz
    cases f1
    · obtain ⟨c1, c2⟩ := c rfl
      have hsh := HS.out _ _ c1
      have hsg1 := skip_ge s i1
      unfold shutP at hsh
      cases hb2 : stands s i1 [41]
      · rw [hb2] at hsh
        have hr : r = none := (Option.some.inj hsh).symm
        clear hsh
        go_wp2_with fail
        go_at_call 46
        refine (wordS_no _ 41 [] rfl (by decide) (by decide) w0 _ s hs i1 hil1 o1 false (by rw [hb2]; rfl) (.inl HZ.out)).mono ?_
        rintro e w3 ⟨rfl, hr3⟩
        obtain ⟨q0, q1, q2, f1, f2⟩ := hr3.cells
        have HB := Lib.hid hr3.setBad
        clear hr3
        go_wp2
        first
          | refine bodyPost_end (results_none rfl _ _ _) rfl ⟨rfl, rz_long HB.out (by omega) (by omega) (.inl hr)⟩
          | refine bodyPost_ret (results_none rfl _ _ _) rfl ⟨rfl, rz_long HB.out (by omega) (by omega) (.inl hr)⟩
      · rw [hb2] at hsh
        have hr : r = some (skip s i1 + 1, o1) := by
          have := Option.some.inj hsh
          rw [← this]
          show some (skip s i1 + 1, o1 ++ []) = _
          rw [List.append_nil]
        clear hsh
        go_wp2_with fail
        go_at_call 46
        refine (wordS_yes _ 41 [] rfl (by decide) (by decide) w0 _ s hs i1 hil1 o1 hb2 (.inl HZ.out) (skip s i1 + 1) rfl).mono ?_
        rintro e w3 ⟨rfl, hr3⟩
        have HR3 := Lib.hid hr3
        clear hr3
        go_wp2
        first
          | refine bodyPost_end (results_none rfl _ _ _) rfl ⟨rfl, rz_fine HR3.out (by omega) (by omega) hr c2⟩
          | refine bodyPost_ret (results_none rfl _ _ _) rfl ⟨rfl, rz_fine HR3.out (by omega) (by omega) hr c2⟩
    · have hl : Long r := long_then (d rfl) HN.out HS.out long_shut
      have hsg1 := skip_ge s i1
      go_wp2_with fail
      go_at_call 46
      refine (wordS_no _ 41 [] rfl (by decide) (by decide) w0 _ s hs i1 hil1 o1 true rfl (.inl HZ.out)).mono ?_
      rintro e w3 ⟨rfl, hr3⟩
      obtain ⟨q0, q1, q2, f1, f2⟩ := hr3.cells
      have HB := Lib.hid hr3.setBad
      clear hr3
      go_wp2
      first
        | refine bodyPost_end (results_none rfl _ _ _) rfl ⟨rfl, rz_long HB.out (by omega) (by omega) hl⟩
        | refine bodyPost_ret (results_none rfl _ _ _) rfl ⟨rfl, rz_long HB.out (by omega) (by omega) hl⟩
theorem facS_plus (w0 : World) (s : List UInt8) (hs : s.length ≤ 1000000) (f : Nat) (IH : IHz w0 s (f + 1)) (i : Nat) (out : List Nd) (r : Option St) (hp : thenP (prs s f .fac (skip s i + 1) out) (fun i o => some (some (i, o ++ [nd 3]))) = some r) (w : World) (h : Rz w0 s w i out false) (hlen : out.length ≤ i) (h60 : out.length ≤ 60) (b0 : stands s i (43 :: []) = true) :
    Calls Tryd.prog 86 #[.pointer (some ⟨w0.heap.size, 0, none⟩)] w (RzEnd w0 s i out false r) := by
  have H := Lib.hid h
  have hil := h.le
  have hsg := skip_ge s i
  have hsl := skip_le hil
  clear h
  obtain ⟨r1, hp1, hn1, hs1⟩ := thenP_got hp
  have hle := stands_le hil b0
  have HW := Lib.hid (fun w' hw' => IH f (Nat.lt_succ_self f) .fac (skip s i + 1) out r1 hp1 trivial w' hw' (by omega) h60)
  have HS := Lib.hid hs1
  have HN := Lib.hid hn1
  clear hp hs1 hn1 hle
  go_enter Tryd.func86, Tryd.ntmps86
  go_wp2_with fail
  go_at_call 28
  refine (next_good (nextB s i) w0 _ s hs i out rfl H.out).mono ?_
  rintro e w1 ⟨rfl, hr1⟩
  have HT0 := Lib.hid hr1
  clear hr1
  go_wp2_with fail
  go_at_call 46
  refine (wordS_yes _ 43 [] rfl (by decide) (by decide) w0 _ s hs i hil out b0 (.inr HT0.out) (skip s i + 1) rfl).mono ?_
  rintro e w2 ⟨rfl, hr2⟩
  have HY := Lib.hid hr2
  clear hr2
  go_wp2_with fail
  go_at_call 86
  refine (HW.out _ HY.out).mono ?_
  rintro e w5 ⟨rfl, hr5⟩
  obtain ⟨i1, o1, f1, hz, a, b, c, d⟩ := hr5.parts
  have HZ := Lib.hid hz
  have hi1 := hz.le
  clear hr5 hz
  go_wp2_with fail
  go_at_call 47
  refine (putS_any (nd 3) w0 _ s i1 o1 f1 (by omega) HZ.out).mono ?_
  rintro e w6 ⟨rfl, hr6⟩
  have HE := Lib.hid (rz_put (i := i) (out := out) (r := r) hr6 (by omega) (by omega) c d HN.out HS.out)
  clear hr6
  go_wp2
  first
    | refine bodyPost_end (results_none rfl _ _ _) rfl ⟨rfl, HE.out⟩
    | refine bodyPost_ret (results_none rfl _ _ _) rfl ⟨rfl, HE.out⟩
theorem facS_minus (w0 : World) (s : List UInt8) (hs : s.length ≤ 1000000) (f : Nat) (IH : IHz w0 s (f + 1)) (i : Nat) (out : List Nd) (r : Option St) (hp : thenP (prs s f .fac (skip s i + 1) out) (fun i o => some (some (i, o ++ [nd 4]))) = some r) (w : World) (h : Rz w0 s w i out false) (hlen : out.length ≤ i) (h60 : out.length ≤ 60) (b0 : stands s i (43 :: []) = false) (b1 : stands s i (45 :: []) = true) :
    Calls Tryd.prog 86 #[.pointer (some ⟨w0.heap.size, 0, none⟩)] w (RzEnd w0 s i out false r) := by
  have H := Lib.hid h
  have hil := h.le
  have hsg := skip_ge s i
  have hsl := skip_le hil
  clear h
  obtain ⟨r1, hp1, hn1, hs1⟩ := thenP_got hp
  have hle := stands_le hil b1
  have HW := Lib.hid (fun w' hw' => IH f (Nat.lt_succ_self f) .fac (skip s i + 1) out r1 hp1 trivial w' hw' (by omega) h60)
  have HS := Lib.hid hs1
  have HN := Lib.hid hn1
  clear hp hs1 hn1 hle
  go_enter Tryd.func86, Tryd.ntmps86
  go_wp2_with fail
  go_at_call 28
  refine (next_good (nextB s i) w0 _ s hs i out rfl H.out).mono ?_
  rintro e w1 ⟨rfl, hr1⟩
  have HT0 := Lib.hid hr1
  clear hr1
  go_wp2_with fail
  go_at_call 46
  refine (wordS_no _ 43 [] rfl (by decide) (by decide) w0 _ s hs i hil out false (by rw [b0]; rfl) (.inr HT0.out)).mono ?_
  rintro e w2 ⟨rfl, hr2⟩
  have HT1 := Lib.hid hr2
  clear hr2
  go_wp2_with fail
  go_at_call 46
  refine (wordS_yes _ 45 [] rfl (by decide) (by decide) w0 _ s hs i hil out b1 (.inr HT1.out) (skip s i + 1) rfl).mono ?_
  rintro e w2 ⟨rfl, hr2⟩
  have HY := Lib.hid hr2
  clear hr2
  go_wp2_with fail
  go_at_call 86
  refine (HW.out _ HY.out).mono ?_
  rintro e w5 ⟨rfl, hr5⟩
  obtain ⟨i1, o1, f1, hz, a, b, c, d⟩ := hr5.parts
  have HZ := Lib.hid hz
  have hi1 := hz.le
  clear hr5 hz
  go_wp2_with fail
  go_at_call 47
  refine (putS_any (nd 4) w0 _ s i1 o1 f1 (by omega) HZ.out).mono ?_
  rintro e w6 ⟨rfl, hr6⟩
  have HE := Lib.hid (rz_put (i := i) (out := out) (r := r) hr6 (by omega) (by omega) c d HN.out HS.out)
  clear hr6
  go_wp2
  first
    | refine bodyPost_end (results_none rfl _ _ _) rfl ⟨rfl, HE.out⟩
    | refine bodyPost_ret (results_none rfl _ _ _) rfl ⟨rfl, HE.out⟩
theorem facS_conj (w0 : World) (s : List UInt8) (hs : s.length ≤ 1000000) (f : Nat) (IH : IHz w0 s (f + 1)) (i : Nat) (out : List Nd) (r : Option St) (hp : prs s f (.word 5) (skip s i + 4) out = some r) (w : World) (h : Rz w0 s w i out false) (hlen : out.length ≤ i) (h60 : out.length ≤ 60) (b0 : stands s i (43 :: []) = false) (b1 : stands s i (45 :: []) = false) (b2 : stands s i (99 :: [111, 110, 106]) = true) :
    Calls Tryd.prog 86 #[.pointer (some ⟨w0.heap.size, 0, none⟩)] w (RzEnd w0 s i out false r) := by
  have H := Lib.hid h
  have hil := h.le
  have hsg := skip_ge s i
  have hsl := skip_le hil
  clear h
  obtain ⟨f, rfl⟩ : ∃ f', f = f' + 1 := by
    cases f with
    | zero => cases hp
    | succ f => exact ⟨f, rfl⟩
  rw [word_ins] at hp
  obtain ⟨r1, hp1, hn1, hs1⟩ := thenP_got hp
  have HW := Lib.hid (fun w' hw' => inside_walk w0 s hs f (fun g hg => IH g (by omega)) (skip s i + 4) out r1 hp1 w' hw' (by omega) h60)
  have HS := Lib.hid hs1
  have HN := Lib.hid hn1
  clear hp hs1 hn1
  go_enter Tryd.func86, Tryd.ntmps86
  go_wp2_with fail
  go_at_call 28
  refine (next_good (nextB s i) w0 _ s hs i out rfl H.out).mono ?_
  rintro e w1 ⟨rfl, hr1⟩
  have HT0 := Lib.hid hr1
  clear hr1
  go_wp2_with fail
  go_at_call 46
  refine (wordS_no _ 43 [] rfl (by decide) (by decide) w0 _ s hs i hil out false (by rw [b0]; rfl) (.inr HT0.out)).mono ?_
  rintro e w2 ⟨rfl, hr2⟩
  have HT1 := Lib.hid hr2
  clear hr2
  go_wp2_with fail
  go_at_call 46
  refine (wordS_no _ 45 [] rfl (by decide) (by decide) w0 _ s hs i hil out false (by rw [b1]; rfl) (.inr HT1.out)).mono ?_
  rintro e w2 ⟨rfl, hr2⟩
  have HT2 := Lib.hid hr2
  clear hr2
  go_wp2_with fail
  go_at_call 46
  refine (wordS_yes _ 99 [111, 110, 106] rfl (by decide) (by decide) w0 _ s hs i hil out b2 (.inr HT2.out) (skip s i + 4) rfl).mono ?_
  rintro e w2 ⟨rfl, hr2⟩
  have HY := Lib.hid hr2
  clear hr2
  go_wp2_with fail
  go_at_call 107
  refine (HW.out _ HY.out).mono ?_
  rintro e w5 ⟨rfl, hr5⟩
  obtain ⟨i1, o1, f1, hz, a, b, c, d⟩ := hr5.parts
  have HZ := Lib.hid hz
  have hi1 := hz.le
  clear hr5 hz
  go_wp2_with fail
  go_at_call 47
  refine (putS_any (nd 5) w0 _ s i1 o1 f1 (by omega) HZ.out).mono ?_
  rintro e w6 ⟨rfl, hr6⟩
  have HE := Lib.hid (rz_put (i := i) (out := out) (r := r) hr6 (by omega) (by omega) c d HN.out HS.out)
  clear hr6
  go_wp2
  first
    | refine bodyPost_end (results_none rfl _ _ _) rfl ⟨rfl, HE.out⟩
    | refine bodyPost_ret (results_none rfl _ _ _) rfl ⟨rfl, HE.out⟩
theorem facS_re (w0 : World) (s : List UInt8) (hs : s.length ≤ 1000000) (f : Nat) (IH : IHz w0 s (f + 1)) (i : Nat) (out : List Nd) (r : Option St) (hp : prs s f (.word 6) (skip s i + 2) out = some r) (w : World) (h : Rz w0 s w i out false) (hlen : out.length ≤ i) (h60 : out.length ≤ 60) (b0 : stands s i (43 :: []) = false) (b1 : stands s i (45 :: []) = false) (b2 : stands s i (99 :: [111, 110, 106]) = false) (b3 : stands s i (114 :: [101]) = true) :
    Calls Tryd.prog 86 #[.pointer (some ⟨w0.heap.size, 0, none⟩)] w (RzEnd w0 s i out false r) := by
  have H := Lib.hid h
  have hil := h.le
  have hsg := skip_ge s i
  have hsl := skip_le hil
  clear h
  obtain ⟨f, rfl⟩ : ∃ f', f = f' + 1 := by
    cases f with
    | zero => cases hp
    | succ f => exact ⟨f, rfl⟩
  rw [word_ins] at hp
  obtain ⟨r1, hp1, hn1, hs1⟩ := thenP_got hp
  have HW := Lib.hid (fun w' hw' => inside_walk w0 s hs f (fun g hg => IH g (by omega)) (skip s i + 2) out r1 hp1 w' hw' (by omega) h60)
  have HS := Lib.hid hs1
  have HN := Lib.hid hn1
  clear hp hs1 hn1
  go_enter Tryd.func86, Tryd.ntmps86
  go_wp2_with fail
  go_at_call 28
  refine (next_good (nextB s i) w0 _ s hs i out rfl H.out).mono ?_
  rintro e w1 ⟨rfl, hr1⟩
  have HT0 := Lib.hid hr1
  clear hr1
  go_wp2_with fail
  go_at_call 46
  refine (wordS_no _ 43 [] rfl (by decide) (by decide) w0 _ s hs i hil out false (by rw [b0]; rfl) (.inr HT0.out)).mono ?_
  rintro e w2 ⟨rfl, hr2⟩
  have HT1 := Lib.hid hr2
  clear hr2
  go_wp2_with fail
  go_at_call 46
  refine (wordS_no _ 45 [] rfl (by decide) (by decide) w0 _ s hs i hil out false (by rw [b1]; rfl) (.inr HT1.out)).mono ?_
  rintro e w2 ⟨rfl, hr2⟩
  have HT2 := Lib.hid hr2
  clear hr2
  go_wp2_with fail
  go_at_call 46
  refine (wordS_no _ 99 [111, 110, 106] rfl (by decide) (by decide) w0 _ s hs i hil out false (by rw [b2]; rfl) (.inr HT2.out)).mono ?_
  rintro e w2 ⟨rfl, hr2⟩
  have HT3 := Lib.hid hr2
  clear hr2
  go_wp2_with fail
  go_at_call 46
  refine (wordS_yes _ 114 [101] rfl (by decide) (by decide) w0 _ s hs i hil out b3 (.inr HT3.out) (skip s i + 2) rfl).mono ?_
  rintro e w2 ⟨rfl, hr2⟩
  have HY := Lib.hid hr2
  clear hr2
  go_wp2_with fail
  go_at_call 107
  refine (HW.out _ HY.out).mono ?_
  rintro e w5 ⟨rfl, hr5⟩
  obtain ⟨i1, o1, f1, hz, a, b, c, d⟩ := hr5.parts
  have HZ := Lib.hid hz
  have hi1 := hz.le
  clear hr5 hz
  go_wp2_with fail
  go_at_call 47
  refine (putS_any (nd 6) w0 _ s i1 o1 f1 (by omega) HZ.out).mono ?_
  rintro e w6 ⟨rfl, hr6⟩
  have HE := Lib.hid (rz_put (i := i) (out := out) (r := r) hr6 (by omega) (by omega) c d HN.out HS.out)
  clear hr6
  go_wp2
  first
    | refine bodyPost_end (results_none rfl _ _ _) rfl ⟨rfl, HE.out⟩
    | refine bodyPost_ret (results_none rfl _ _ _) rfl ⟨rfl, HE.out⟩
theorem facS_im (w0 : World) (s : List UInt8) (hs : s.length ≤ 1000000) (f : Nat) (IH : IHz w0 s (f + 1)) (i : Nat) (out : List Nd) (r : Option St) (hp : prs s f (.word 7) (skip s i + 2) out = some r) (w : World) (h : Rz w0 s w i out false) (hlen : out.length ≤ i) (h60 : out.length ≤ 60) (b0 : stands s i (43 :: []) = false) (b1 : stands s i (45 :: []) = false) (b2 : stands s i (99 :: [111, 110, 106]) = false) (b3 : stands s i (114 :: [101]) = false) (b4 : stands s i (105 :: [109]) = true) :
    Calls Tryd.prog 86 #[.pointer (some ⟨w0.heap.size, 0, none⟩)] w (RzEnd w0 s i out false r) := by
  have H := Lib.hid h
  have hil := h.le
  have hsg := skip_ge s i
  have hsl := skip_le hil
  clear h
  obtain ⟨f, rfl⟩ : ∃ f', f = f' + 1 := by
    cases f with
    | zero => cases hp
    | succ f => exact ⟨f, rfl⟩
  rw [word_ins] at hp
  obtain ⟨r1, hp1, hn1, hs1⟩ := thenP_got hp
  have HW := Lib.hid (fun w' hw' => inside_walk w0 s hs f (fun g hg => IH g (by omega)) (skip s i + 2) out r1 hp1 w' hw' (by omega) h60)
  have HS := Lib.hid hs1
  have HN := Lib.hid hn1
  clear hp hs1 hn1
  go_enter Tryd.func86, Tryd.ntmps86
  go_wp2_with fail
  go_at_call 28
  refine (next_good (nextB s i) w0 _ s hs i out rfl H.out).mono ?_
  rintro e w1 ⟨rfl, hr1⟩
  have HT0 := Lib.hid hr1
  clear hr1
  go_wp2_with fail
  go_at_call 46
  refine (wordS_no _ 43 [] rfl (by decide) (by decide) w0 _ s hs i hil out false (by rw [b0]; rfl) (.inr HT0.out)).mono ?_
  rintro e w2 ⟨rfl, hr2⟩
  have HT1 := Lib.hid hr2
  clear hr2
  go_wp2_with fail
  go_at_call 46
  refine (wordS_no _ 45 [] rfl (by decide) (by decide) w0 _ s hs i hil out false (by rw [b1]; rfl) (.inr HT1.out)).mono ?_
  rintro e w2 ⟨rfl, hr2⟩
  have HT2 := Lib.hid hr2
  clear hr2
  go_wp2_with fail
  go_at_call 46
  refine (wordS_no _ 99 [111, 110, 106] rfl (by decide) (by decide) w0 _ s hs i hil out false (by rw [b2]; rfl) (.inr HT2.out)).mono ?_
  rintro e w2 ⟨rfl, hr2⟩
  have HT3 := Lib.hid hr2
  clear hr2
  go_wp2_with fail
  go_at_call 46
  refine (wordS_no _ 114 [101] rfl (by decide) (by decide) w0 _ s hs i hil out false (by rw [b3]; rfl) (.inr HT3.out)).mono ?_
  rintro e w2 ⟨rfl, hr2⟩
  have HT4 := Lib.hid hr2
  clear hr2
  go_wp2_with fail
  go_at_call 46
  refine (wordS_yes _ 105 [109] rfl (by decide) (by decide) w0 _ s hs i hil out b4 (.inr HT4.out) (skip s i + 2) rfl).mono ?_
  rintro e w2 ⟨rfl, hr2⟩
  have HY := Lib.hid hr2
  clear hr2
  go_wp2_with fail
  go_at_call 107
  refine (HW.out _ HY.out).mono ?_
  rintro e w5 ⟨rfl, hr5⟩
  obtain ⟨i1, o1, f1, hz, a, b, c, d⟩ := hr5.parts
  have HZ := Lib.hid hz
  have hi1 := hz.le
  clear hr5 hz
  go_wp2_with fail
  go_at_call 47
  refine (putS_any (nd 7) w0 _ s i1 o1 f1 (by omega) HZ.out).mono ?_
  rintro e w6 ⟨rfl, hr6⟩
  have HE := Lib.hid (rz_put (i := i) (out := out) (r := r) hr6 (by omega) (by omega) c d HN.out HS.out)
  clear hr6
  go_wp2
  first
    | refine bodyPost_end (results_none rfl _ _ _) rfl ⟨rfl, HE.out⟩
    | refine bodyPost_ret (results_none rfl _ _ _) rfl ⟨rfl, HE.out⟩
theorem facS_open (w0 : World) (s : List UInt8) (hs : s.length ≤ 1000000) (f : Nat) (IH : IHz w0 s (f + 1)) (i : Nat) (out : List Nd) (r : Option St) (hp : insP s f i out = some r) (w : World) (h : Rz w0 s w i out false) (hlen : out.length ≤ i) (h60 : out.length ≤ 60) (b0 : stands s i (43 :: []) = false) (b1 : stands s i (45 :: []) = false) (b2 : stands s i (99 :: [111, 110, 106]) = false) (b3 : stands s i (114 :: [101]) = false) (b4 : stands s i (105 :: [109]) = false) (b5 : stands s i [40] = true) :
    Calls Tryd.prog 86 #[.pointer (some ⟨w0.heap.size, 0, none⟩)] w (RzEnd w0 s i out false r) := by
  have H := Lib.hid h
  have hil := h.le
  have hsg := skip_ge s i
  have hsl := skip_le hil
  clear h
  have hnb : nextB s i = 40 := nextB_of (stands_head b5)
  have HW := Lib.hid (fun w' hw' => inside_walk w0 s hs f IH (skip s i) out r ((insP_skip hil).trans hp) w' hw' (by omega) h60)
  clear hp
  go_enter Tryd.func86, Tryd.ntmps86
  go_wp2_with fail
  go_at_call 28
  refine (next_good (40) w0 _ s hs i out hnb H.out).mono ?_
  rintro e w1 ⟨rfl, hr1⟩
  have HT0 := Lib.hid hr1
  clear hr1
  go_wp2_with fail
  go_at_call 46
  refine (wordS_no _ 43 [] rfl (by decide) (by decide) w0 _ s hs i hil out false (by rw [b0]; rfl) (.inr HT0.out)).mono ?_
  rintro e w2 ⟨rfl, hr2⟩
  have HT1 := Lib.hid hr2
  clear hr2
  go_wp2_with fail
  go_at_call 46
  refine (wordS_no _ 45 [] rfl (by decide) (by decide) w0 _ s hs i hil out false (by rw [b1]; rfl) (.inr HT1.out)).mono ?_
  rintro e w2 ⟨rfl, hr2⟩
  have HT2 := Lib.hid hr2
  clear hr2
  go_wp2_with fail
  go_at_call 46
  refine (wordS_no _ 99 [111, 110, 106] rfl (by decide) (by decide) w0 _ s hs i hil out false (by rw [b2]; rfl) (.inr HT2.out)).mono ?_
  rintro e w2 ⟨rfl, hr2⟩
  have HT3 := Lib.hid hr2
  clear hr2
  go_wp2_with fail
  go_at_call 46
  refine (wordS_no _ 114 [101] rfl (by decide) (by decide) w0 _ s hs i hil out false (by rw [b3]; rfl) (.inr HT3.out)).mono ?_
  rintro e w2 ⟨rfl, hr2⟩
  have HT4 := Lib.hid hr2
  clear hr2
  go_wp2_with fail
  go_at_call 46
  refine (wordS_no _ 105 [109] rfl (by decide) (by decide) w0 _ s hs i hil out false (by rw [b4]; rfl) (.inr HT4.out)).mono ?_
  rintro e w2 ⟨rfl, hr2⟩
  have HT5 := Lib.hid hr2
  clear hr2
  go_wp2_with fail
  go_at_call 107
  refine (HW.out _ HT5.out).mono ?_
  rintro e w5 ⟨rfl, hr5⟩
  have HE := Lib.hid (hr5.from hsg)
  clear hr5
  go_wp2
  first
    | refine bodyPost_end (results_none rfl _ _ _) rfl ⟨rfl, HE.out⟩
    | refine bodyPost_ret (results_none rfl _ _ _) rfl ⟨rfl, HE.out⟩
theorem facS_slot (w0 : World) (s : List UInt8) (hs : s.length ≤ 1000000) (f : Nat) (IH : IHz w0 s (f + 1)) (i : Nat) (out : List Nd) (r : Option St) (hp : some (slotP s (skip s i + 1) out) = some r) (w : World) (h : Rz w0 s w i out false) (hlen : out.length ≤ i) (h60 : out.length ≤ 60) (b0 : stands s i (43 :: []) = false) (b1 : stands s i (45 :: []) = false) (b2 : stands s i (99 :: [111, 110, 106]) = false) (b3 : stands s i (114 :: [101]) = false) (b4 : stands s i (105 :: [109]) = false) (b6 : stands s i [115] = true) :
    Calls Tryd.prog 86 #[.pointer (some ⟨w0.heap.size, 0, none⟩)] w (RzEnd w0 s i out false r) := by
  have H := Lib.hid h
  have hil := h.le
  have hsg := skip_ge s i
  have hsl := skip_le hil
  clear h
  have hnb : nextB s i = 115 := nextB_of (stands_head b6)
  have hr := Option.some.inj hp
  have hhd := stands_head b6
  obtain ⟨p, hpp⟩ : ∃ p, skip s i = p := ⟨_, rfl⟩
  have HSK := Lib.hid hpp
  rw [hpp] at hr hhd hsg hsl
  have hpl := (List.getElem?_eq_some_iff.1 hhd).1
  have HNF : Hid (numF s p out = none) := Lib.hid (by
    have h1 : figE s p = p := figE_stop hpl (by rw [(List.getElem?_eq_some_iff.1 hhd).2]; rfl)
    unfold numF
    rw [h1, if_neg (by omega)])
  clear hp hpp hhd
  by_cases hfig : ∃ (h1 : p + 1 < s.length), isFig s[p + 1] = true
  · obtain ⟨h1, hf⟩ := hfig
    obtain ⟨x, hx⟩ : ∃ x : Nat, s[p + 1].toNat = x := ⟨_, rfl⟩
    have hr2 : r = some (p + 2, out ++ [⟨2, (x : Int) - 48, 0, 0⟩]) := by
      rw [← hr]; unfold slotP; rw [List.getElem?_eq_getElem h1]
      show (if isFig s[p + 1] then _ else none) = _
      rw [if_pos hf, hx]
    have HR2 := Lib.hid hr2
    unfold isFig at hf
    rw [hx] at hf
    simp only [Bool.and_eq_true, decide_eq_true_eq] at hf
    have hx1 : decide ((48 : Int) ≤ (x : Int)) = true := decide_eq_true (by omega)
    have hx2 : decide ((x : Int) ≤ 57) = true := decide_eq_true (by omega)
    have c1 : decide ((p : Int) + 1 < (s.length : Int)) = true := decide_eq_true (by omega)
    have hsz : p + 1 < (⟨s.toArray⟩ : ByteArray).size := by simpa [ByteArray.size] using h1
    have hxx : ((⟨s.toArray⟩ : ByteArray)[p + 1]'hsz).toNat = x := hx
    have ii1 : (0 : Int) ≤ (p : Int) + 1 := by omega
    have ii2 : (p : Int) + 1 < (s.length : Int) := by omega
    have ii3 : p + 1 < s.length := h1
    have ii4 : IntKind.i64.wrap ((p : Int) + 1) = (p : Int) + 1 := by rw [IntKind.wrap_i64]; omega
    have hcv3 : IntKind.i64.wrap (x : Int) = (x : Int) := by rw [IntKind.wrap_i64]; omega
    have hcv2 : IntKind.i64.wrap ((x : Int) - 48) = (x : Int) - 48 := by rw [IntKind.wrap_i64]; omega
    have hcv : wrap64 ((x : Int) - 48) = (x : Int) - 48 := w64 _ (by omega)
    clear hr hr2 hx
    go_enter Tryd.func86, Tryd.ntmps86
    go_wp2_with fail
    go_at_call 28
    refine (next_good (115) w0 _ s hs i out hnb H.out).mono ?_
    rintro e w1 ⟨rfl, hr1⟩
    have HT0 := Lib.hid hr1
    clear hr1
    go_wp2_with fail
    go_at_call 46
    refine (wordS_no _ 43 [] rfl (by decide) (by decide) w0 _ s hs i hil out false (by rw [b0]; rfl) (.inr HT0.out)).mono ?_
    rintro e w2 ⟨rfl, hr2⟩
    have HT1 := Lib.hid hr2
    clear hr2
    go_wp2_with fail
    go_at_call 46
    refine (wordS_no _ 45 [] rfl (by decide) (by decide) w0 _ s hs i hil out false (by rw [b1]; rfl) (.inr HT1.out)).mono ?_
    rintro e w2 ⟨rfl, hr2⟩
    have HT2 := Lib.hid hr2
    clear hr2
    go_wp2_with fail
    go_at_call 46
    refine (wordS_no _ 99 [111, 110, 106] rfl (by decide) (by decide) w0 _ s hs i hil out false (by rw [b2]; rfl) (.inr HT2.out)).mono ?_
    rintro e w2 ⟨rfl, hr2⟩
    have HT3 := Lib.hid hr2
    clear hr2
    go_wp2_with fail
    go_at_call 46
    refine (wordS_no _ 114 [101] rfl (by decide) (by decide) w0 _ s hs i hil out false (by rw [b3]; rfl) (.inr HT3.out)).mono ?_
    rintro e w2 ⟨rfl, hr2⟩
    have HT4 := Lib.hid hr2
    clear hr2
    go_wp2_with fail
    go_at_call 46
    refine (wordS_no _ 105 [109] rfl (by decide) (by decide) w0 _ s hs i hil out false (by rw [b4]; rfl) (.inr HT4.out)).mono ?_
    rintro e w2 ⟨rfl, hr2⟩
    have HT5 := Lib.hid hr2
    clear hr2
    have HTP : Hid (Rz w0 s w2 p out false) := Lib.hid (by have := HT5.out; rwa [HSK.out] at this)
    obtain ⟨q0, q1, q2, k1, k2⟩ := HTP.out.cells
    go_upto_region 20 with fail
    go_quiet (fail)
    go_upto_region 21 with fail
    have HTQ := Lib.hid (HTP.out.drewN nq)
    generalize hwq : w2.drewN nq = W at HTQ ⊢
    clear hwq q0 q1 q2 k1 k2
    obtain ⟨q0, q1, q2, k1, k2⟩ := HTQ.out.cells
    have HPUT := Lib.hid (fun (W' : World) (hW : Rz w0 s W' p out false) => putS_any ⟨2, (x : Int) - 48, 0, 0⟩ w0 W' s p out false (by omega) hW)
    go_region_held3 (fun X => X.cell? ⟨w0.heap.size, 0, none⟩ = some (tx s) ∧ X.cell? ⟨w0.heap.size, 1, none⟩ = some (.int .i64 (p : Int))) (first | exact ⟨HTQ.out.drew.cells.1, HTQ.out.drew.cells.2.1⟩ | exact ⟨hr7.cells.1, hr7.cells.2.1⟩) (first | (go_at_call 47; refine (HPUT.out _ HTQ.out.drew).mono ?_; rintro e w7 ⟨rfl, hr7⟩))
    have HR7 := Lib.hid hr7
    have HE7 := Lib.hid (hr7.setAt' (z := (p : Int) + 2) (j := p + 2) (by simp) (by omega))
    clear q0 q1 q2 k1 k2
    obtain ⟨q0, q1, q2, k1, k2⟩ := HR7.out.cells
    clear hr7
    go_wp2
    first
      | refine bodyPost_end (results_none rfl _ _ _) rfl ⟨rfl, rz_some HR2.out (by rw [List.length_append]; exact HE7.out) (by omega) (by simp; omega)⟩
      | refine bodyPost_ret (results_none rfl _ _ _) rfl ⟨rfl, rz_some HR2.out (by rw [List.length_append]; exact HE7.out) (by omega) (by simp; omega)⟩
  · have hr2 : r = none := by
      rw [← hr]; unfold slotP
      cases h1 : s[p + 1]? with
      | none => rfl
      | some c =>
        have h2 := List.getElem?_eq_some_iff.1 h1
        show (if isFig c then _ else none) = none
        rw [if_neg (fun h3 => hfig ⟨h2.1, by rw [h2.2]; exact h3⟩)]
    have HR2 := Lib.hid hr2
    have HRN := Lib.hid (fun (W' : World) (hW : Rz w0 s W' p out false) => readNumS_any w0 W' s hs p out false hW (by omega))
    clear hr hr2
    by_cases h1 : p + 1 < s.length
    · have c1 : decide ((p : Int) + 1 < (s.length : Int)) = true := decide_eq_true (by omega)
      have hsz : p + 1 < (⟨s.toArray⟩ : ByteArray).size := by simpa [ByteArray.size] using h1
      obtain ⟨x, hx⟩ : ∃ x : Nat, ((⟨s.toArray⟩ : ByteArray)[p + 1]'hsz).toNat = x := ⟨_, rfl⟩
      have hnf : ¬ (48 ≤ x ∧ x ≤ 57) := fun h9 => hfig ⟨h1, by unfold isFig; rw [show s[p + 1].toNat = x from hx]; simp; exact h9⟩
      clear hfig
      by_cases hx48 : 48 ≤ x
      · have hx1 : decide ((48 : Int) ≤ (x : Int)) = true := decide_eq_true (by omega)
        have hx2 : decide ((x : Int) ≤ 57) = false := decide_eq_false (by omega)
        clear hnf hx48
        go_enter Tryd.func86, Tryd.ntmps86
        go_wp2_with fail
        go_at_call 28
        refine (next_good (115) w0 _ s hs i out hnb H.out).mono ?_
        rintro e w1 ⟨rfl, hr1⟩
        have HT0 := Lib.hid hr1
        clear hr1
        go_wp2_with fail
        go_at_call 46
        refine (wordS_no _ 43 [] rfl (by decide) (by decide) w0 _ s hs i hil out false (by rw [b0]; rfl) (.inr HT0.out)).mono ?_
        rintro e w2 ⟨rfl, hr2⟩
        have HT1 := Lib.hid hr2
        clear hr2
        go_wp2_with fail
        go_at_call 46
        refine (wordS_no _ 45 [] rfl (by decide) (by decide) w0 _ s hs i hil out false (by rw [b1]; rfl) (.inr HT1.out)).mono ?_
        rintro e w2 ⟨rfl, hr2⟩
        have HT2 := Lib.hid hr2
        clear hr2
        go_wp2_with fail
        go_at_call 46
        refine (wordS_no _ 99 [111, 110, 106] rfl (by decide) (by decide) w0 _ s hs i hil out false (by rw [b2]; rfl) (.inr HT2.out)).mono ?_
        rintro e w2 ⟨rfl, hr2⟩
        have HT3 := Lib.hid hr2
        clear hr2
        go_wp2_with fail
        go_at_call 46
        refine (wordS_no _ 114 [101] rfl (by decide) (by decide) w0 _ s hs i hil out false (by rw [b3]; rfl) (.inr HT3.out)).mono ?_
        rintro e w2 ⟨rfl, hr2⟩
        have HT4 := Lib.hid hr2
        clear hr2
        go_wp2_with fail
        go_at_call 46
        refine (wordS_no _ 105 [109] rfl (by decide) (by decide) w0 _ s hs i hil out false (by rw [b4]; rfl) (.inr HT4.out)).mono ?_
        rintro e w2 ⟨rfl, hr2⟩
        have HT5 := Lib.hid hr2
        clear hr2
        have HTP : Hid (Rz w0 s w2 p out false) := Lib.hid (by have := HT5.out; rwa [HSK.out] at this)
        obtain ⟨q0, q1, q2, k1, k2⟩ := HTP.out.cells
        go_upto_region 20 with fail
        go_quiet (fail)
        go_wp2_with fail
        go_at_call 108
        refine (HRN.out _ (HTP.out.drewN nq)).mono ?_
        rintro e w5 ⟨rfl, hr5⟩
        rw [HNF.out, ← HR2.out] at hr5
        have HE := Lib.hid (hr5.from hsg)
        clear hr5
        go_wp2
        first
          | refine bodyPost_end (results_none rfl _ _ _) rfl ⟨rfl, HE.out⟩
          | refine bodyPost_ret (results_none rfl _ _ _) rfl ⟨rfl, HE.out⟩
      · have hx1 : decide ((48 : Int) ≤ (x : Int)) = false := decide_eq_false (by omega)
        clear hnf hx48
        go_enter Tryd.func86, Tryd.ntmps86
        go_wp2_with fail
        go_at_call 28
        refine (next_good (115) w0 _ s hs i out hnb H.out).mono ?_
        rintro e w1 ⟨rfl, hr1⟩
        have HT0 := Lib.hid hr1
        clear hr1
        go_wp2_with fail
        go_at_call 46
        refine (wordS_no _ 43 [] rfl (by decide) (by decide) w0 _ s hs i hil out false (by rw [b0]; rfl) (.inr HT0.out)).mono ?_
        rintro e w2 ⟨rfl, hr2⟩
        have HT1 := Lib.hid hr2
        clear hr2
        go_wp2_with fail
        go_at_call 46
        refine (wordS_no _ 45 [] rfl (by decide) (by decide) w0 _ s hs i hil out false (by rw [b1]; rfl) (.inr HT1.out)).mono ?_
        rintro e w2 ⟨rfl, hr2⟩
        have HT2 := Lib.hid hr2
        clear hr2
        go_wp2_with fail
        go_at_call 46
        refine (wordS_no _ 99 [111, 110, 106] rfl (by decide) (by decide) w0 _ s hs i hil out false (by rw [b2]; rfl) (.inr HT2.out)).mono ?_
        rintro e w2 ⟨rfl, hr2⟩
        have HT3 := Lib.hid hr2
        clear hr2
        go_wp2_with fail
        go_at_call 46
        refine (wordS_no _ 114 [101] rfl (by decide) (by decide) w0 _ s hs i hil out false (by rw [b3]; rfl) (.inr HT3.out)).mono ?_
        rintro e w2 ⟨rfl, hr2⟩
        have HT4 := Lib.hid hr2
        clear hr2
        go_wp2_with fail
        go_at_call 46
        refine (wordS_no _ 105 [109] rfl (by decide) (by decide) w0 _ s hs i hil out false (by rw [b4]; rfl) (.inr HT4.out)).mono ?_
        rintro e w2 ⟨rfl, hr2⟩
        have HT5 := Lib.hid hr2
        clear hr2
        have HTP : Hid (Rz w0 s w2 p out false) := Lib.hid (by have := HT5.out; rwa [HSK.out] at this)
        obtain ⟨q0, q1, q2, k1, k2⟩ := HTP.out.cells
        go_upto_region 20 with fail
        go_quiet (fail)
        go_wp2_with fail
        go_at_call 108
        refine (HRN.out _ (HTP.out.drewN nq)).mono ?_
        rintro e w5 ⟨rfl, hr5⟩
        rw [HNF.out, ← HR2.out] at hr5
        have HE := Lib.hid (hr5.from hsg)
        clear hr5
        go_wp2
        first
          | refine bodyPost_end (results_none rfl _ _ _) rfl ⟨rfl, HE.out⟩
          | refine bodyPost_ret (results_none rfl _ _ _) rfl ⟨rfl, HE.out⟩
    · have c1 : decide ((p : Int) + 1 < (s.length : Int)) = false := decide_eq_false (by omega)
      clear hfig
      go_enter Tryd.func86, Tryd.ntmps86
      go_wp2_with fail
      go_at_call 28
      refine (next_good (115) w0 _ s hs i out hnb H.out).mono ?_
      rintro e w1 ⟨rfl, hr1⟩
      have HT0 := Lib.hid hr1
      clear hr1
      go_wp2_with fail
      go_at_call 46
      refine (wordS_no _ 43 [] rfl (by decide) (by decide) w0 _ s hs i hil out false (by rw [b0]; rfl) (.inr HT0.out)).mono ?_
      rintro e w2 ⟨rfl, hr2⟩
      have HT1 := Lib.hid hr2
      clear hr2
      go_wp2_with fail
      go_at_call 46
      refine (wordS_no _ 45 [] rfl (by decide) (by decide) w0 _ s hs i hil out false (by rw [b1]; rfl) (.inr HT1.out)).mono ?_
      rintro e w2 ⟨rfl, hr2⟩
      have HT2 := Lib.hid hr2
      clear hr2
      go_wp2_with fail
      go_at_call 46
      refine (wordS_no _ 99 [111, 110, 106] rfl (by decide) (by decide) w0 _ s hs i hil out false (by rw [b2]; rfl) (.inr HT2.out)).mono ?_
      rintro e w2 ⟨rfl, hr2⟩
      have HT3 := Lib.hid hr2
      clear hr2
      go_wp2_with fail
      go_at_call 46
      refine (wordS_no _ 114 [101] rfl (by decide) (by decide) w0 _ s hs i hil out false (by rw [b3]; rfl) (.inr HT3.out)).mono ?_
      rintro e w2 ⟨rfl, hr2⟩
      have HT4 := Lib.hid hr2
      clear hr2
      go_wp2_with fail
      go_at_call 46
      refine (wordS_no _ 105 [109] rfl (by decide) (by decide) w0 _ s hs i hil out false (by rw [b4]; rfl) (.inr HT4.out)).mono ?_
      rintro e w2 ⟨rfl, hr2⟩
      have HT5 := Lib.hid hr2
      clear hr2
      have HTP : Hid (Rz w0 s w2 p out false) := Lib.hid (by have := HT5.out; rwa [HSK.out] at this)
      obtain ⟨q0, q1, q2, k1, k2⟩ := HTP.out.cells
      go_upto_region 20 with fail
      go_quiet (fail)
      go_wp2_with fail
      go_at_call 108
      refine (HRN.out _ (HTP.out.drewN nq)).mono ?_
      rintro e w5 ⟨rfl, hr5⟩
      rw [HNF.out, ← HR2.out] at hr5
      have HE := Lib.hid (hr5.from hsg)
      clear hr5
      go_wp2
      first
        | refine bodyPost_end (results_none rfl _ _ _) rfl ⟨rfl, HE.out⟩
        | refine bodyPost_ret (results_none rfl _ _ _) rfl ⟨rfl, HE.out⟩
theorem facS_num (w0 : World) (s : List UInt8) (hs : s.length ≤ 1000000) (f : Nat) (IH : IHz w0 s (f + 1)) (i : Nat) (out : List Nd) (r : Option St) (hp : some (numF s (skip s i) out) = some r) (w : World) (h : Rz w0 s w i out false) (hlen : out.length ≤ i) (h60 : out.length ≤ 60) (b0 : stands s i (43 :: []) = false) (b1 : stands s i (45 :: []) = false) (b2 : stands s i (99 :: [111, 110, 106]) = false) (b3 : stands s i (114 :: [101]) = false) (b4 : stands s i (105 :: [109]) = false) (b5 : stands s i [40] = false) (b6 : stands s i [115] = false) :
    Calls Tryd.prog 86 #[.pointer (some ⟨w0.heap.size, 0, none⟩)] w (RzEnd w0 s i out false r) := by
  have H := Lib.hid h
  have hil := h.le
  have hsg := skip_ge s i
  have hsl := skip_le hil
  clear h
  obtain ⟨B, hB⟩ : ∃ B, nextB s i = B := ⟨_, rfl⟩
  have h40 : B ≠ 40 := by rw [← hB]; exact nextB_not b5 (by decide)
  have h115 : B ≠ 115 := by rw [← hB]; exact nextB_not b6 (by decide)
  have c40 : ((B : Int) == 40) = false := beq_eq_false_iff_ne.2 (by omega)
  have c115 : ((B : Int) == 115) = false := beq_eq_false_iff_ne.2 (by omega)
  have HR2 := Lib.hid (Option.some.inj hp)
  have HRN := Lib.hid (fun (W' : World) (hW : Rz w0 s W' (skip s i) out false) => readNumS_any w0 W' s hs (skip s i) out false hW (by omega))
  clear hp h40 h115
  go_enter Tryd.func86, Tryd.ntmps86
  go_wp2_with fail
  go_at_call 28
  refine (next_good (B) w0 _ s hs i out hB H.out).mono ?_
  rintro e w1 ⟨rfl, hr1⟩
  have HT0 := Lib.hid hr1
  clear hr1
  go_wp2_with fail
  go_at_call 46
  refine (wordS_no _ 43 [] rfl (by decide) (by decide) w0 _ s hs i hil out false (by rw [b0]; rfl) (.inr HT0.out)).mono ?_
  rintro e w2 ⟨rfl, hr2⟩
  have HT1 := Lib.hid hr2
  clear hr2
  go_wp2_with fail
  go_at_call 46
  refine (wordS_no _ 45 [] rfl (by decide) (by decide) w0 _ s hs i hil out false (by rw [b1]; rfl) (.inr HT1.out)).mono ?_
  rintro e w2 ⟨rfl, hr2⟩
  have HT2 := Lib.hid hr2
  clear hr2
  go_wp2_with fail
  go_at_call 46
  refine (wordS_no _ 99 [111, 110, 106] rfl (by decide) (by decide) w0 _ s hs i hil out false (by rw [b2]; rfl) (.inr HT2.out)).mono ?_
  rintro e w2 ⟨rfl, hr2⟩
  have HT3 := Lib.hid hr2
  clear hr2
  go_wp2_with fail
  go_at_call 46
  refine (wordS_no _ 114 [101] rfl (by decide) (by decide) w0 _ s hs i hil out false (by rw [b3]; rfl) (.inr HT3.out)).mono ?_
  rintro e w2 ⟨rfl, hr2⟩
  have HT4 := Lib.hid hr2
  clear hr2
  go_wp2_with fail
  go_at_call 46
  refine (wordS_no _ 105 [109] rfl (by decide) (by decide) w0 _ s hs i hil out false (by rw [b4]; rfl) (.inr HT4.out)).mono ?_
  rintro e w2 ⟨rfl, hr2⟩
  have HT5 := Lib.hid hr2
  clear hr2
  obtain ⟨q0, q1, q2, k1, k2⟩ := HT5.out.cells
  go_upto_region 20 with fail
  go_quiet (fail)
  go_wp2_with fail
  go_at_call 108
  refine (HRN.out _ (HT5.out.drewN nq)).mono ?_
  rintro e w5 ⟨rfl, hr5⟩
  rw [HR2.out] at hr5
  have HE := Lib.hid (hr5.from hsg)
  clear hr5
  go_wp2
  first
    | refine bodyPost_end (results_none rfl _ _ _) rfl ⟨rfl, HE.out⟩
    | refine bodyPost_ret (results_none rfl _ _ _) rfl ⟨rfl, HE.out⟩
theorem factor_walkS (w0 : World) (s : List UInt8) (hs : s.length ≤ 1000000) (f : Nat) (IH : IHz w0 s (f + 1)) (i : Nat) (out : List Nd) (r : Option St) (hp : prs s (f + 1) .fac i out = some r) (w : World) (h : Rz w0 s w i out false) (hlen : out.length ≤ i) (h60 : out.length ≤ 60) :
    Calls Tryd.prog 86 #[.pointer (some ⟨w0.heap.size, 0, none⟩)] w (RzEnd w0 s i out false r) := by
  unfold prs at hp
  cases b0 : stands s i [43]
  · rw [b0] at hp
    cases b1 : stands s i [45]
    · rw [b1] at hp
      cases b5 : stands s i [40]
      · rw [b5] at hp
        cases b2 : stands s i [99, 111, 110, 106]
        · rw [b2] at hp
          cases b3 : stands s i [114, 101]
          · rw [b3] at hp
            cases b4 : stands s i [105, 109]
            · rw [b4] at hp
              cases b6 : stands s i [115]
              · rw [b6] at hp
                exact facS_num w0 s hs f IH i out r hp w h hlen h60 b0 b1 b2 b3 b4 b5 b6
              · rw [b6] at hp
                exact facS_slot w0 s hs f IH i out r hp w h hlen h60 b0 b1 b2 b3 b4 b6
            · rw [b4] at hp
              exact facS_im w0 s hs f IH i out r hp w h hlen h60 b0 b1 b2 b3 b4
          · rw [b3] at hp
            exact facS_re w0 s hs f IH i out r hp w h hlen h60 b0 b1 b2 b3
        · rw [b2] at hp
          exact facS_conj w0 s hs f IH i out r hp w h hlen h60 b0 b1 b2
      · rw [b5] at hp
        have hne : ∀ c : UInt8, c ≠ 40 → s[skip s i]? ≠ some c := fun c hc h9 => by
          rw [stands_head b5] at h9
          exact hc (Option.some.inj h9).symm
        exact facS_open w0 s hs f IH i out r (by unfold insP; rw [b5]; exact hp) w h hlen h60 b0 b1 (stands_none _ (hne 99 (by decide))) (stands_none _ (hne 114 (by decide))) (stands_none _ (hne 105 (by decide))) b5
    · rw [b1] at hp
      exact facS_minus w0 s hs f IH i out r hp w h hlen h60 b0 b1
  · rw [b0] at hp
    exact facS_plus w0 s hs f IH i out r hp w h hlen h60 b0
end Go.Proofs.YtjgjgjkffoagoaaDoor
