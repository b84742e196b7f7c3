/- The reference's reader of expressions walked: the levels; all its functions. No condition. (printed by genrzd.py) -/
import Derived.Test.YtjgjgjkffoagoaaDoorRzC
namespace Go.Proofs.YtjgjgjkffoagoaaDoor
open Go.RowKit
attribute [local go_sem] run_store_float run_store_complex
set_option maxRecDepth 100000
set_option maxHeartbeats 4000000
set_option linter.unusedVariables false
set_option linter.unusedSimpArgs false

/-- The loop's relation at a level, and its measure. -/
def LzRel (w0 : World) (s : List UInt8) (i : Nat) (out : List Nd) (r : Option St) (F n : Nat) (wr : World) : Prop :=
  ∃ i1 o1 f1, Rz w0 s wr i1 o1 f1 ∧ i ≤ i1 ∧ o1.length + i ≤ out.length + i1 ∧ (f1 = false → o1.length ≤ 60 ∧ ∃ g, g ≤ F ∧ prs s g (.loop n) i1 o1 = some r) ∧ (f1 = true → Long r)
def mz (c len : Nat) (w : World) : Nat := match w.cell? ⟨c, 2, none⟩ with
  | some (.bool true) => 0
  | _ => len + 1 - atOf c w
section
variable {w0 w w' : World} {s : List UInt8} {i j i' i1 : Nat} {out out' o1 : List Nd} {f f1 : Bool} {r r1 : Option St}
theorem Rz.mz_good (h : Rz w0 s w i out false) : mz w0.heap.size s.length w = s.length + 1 - i := by
  unfold mz
  rw [h.cells.2.2.1, h.atOf]
theorem Rz.mz_bad (h : Rz w0 s w i out true) : mz w0.heap.size s.length w = 0 := by
  unfold mz
  rw [h.cells.2.2.1]
theorem long_loop {g n f9 : Nat} {md : Md} {t : List Nd} (hp : prs s f9 md j o1 = some r1) (hmd : MdOk md) (hj : j ≤ s.length) (hl : Long r1) (hn : r1 = none → r = none) (hs : ∀ i o, r1 = some (i, o) → prs s g (.loop n) i (o ++ t) = some r) (h2 : n ≤ 2) : Long r := by
  rcases hl with h | ⟨p, h, hl⟩
  · exact .inl (hn h)
  · have hc := came_all s f9 md j o1 p.1 p.2 (by rw [hp, h]) hmd hj
    exact prs_long (hs p.1 p.2 h) h2 hc.le (by rw [List.length_append]; omega)
theorem lz_start {F n : Nat} {md : Md} (hp : prs s F md i out = some r1) (hmd : MdOk md) (hi : i ≤ s.length) (hz : Rz w0 s w' i1 o1 f1) (a : i ≤ i1) (b : o1.length + i ≤ out.length + i1) (c : f1 = false → r1 = some (i1, o1) ∧ o1.length ≤ 60) (d : f1 = true → Long r1) (hn : r1 = none → r = none)
    (hs : ∀ i o, r1 = some (i, o) → prs s F (.loop n) i o = some r) (h2 : n ≤ 2) : LzRel w0 s i out r F n w' := by
  refine ⟨i1, o1, f1, hz, a, b, fun h => ⟨(c h).2, F, Nat.le_refl _, hs _ _ (c h).1⟩, fun h => ?_⟩
  exact long_loop (t := []) hp hmd hi (d h) hn (fun i o h => by rw [List.append_nil]; exact hs i o h) h2
theorem lz_next {F g n f9 i9 : Nat} {o9 : List Nd} {md : Md} {k : Int} (hp : prs s f9 md j o1 = some r1) (hmd : MdOk md) (hj : j ≤ s.length) (hz : Rz w0 s w' i9 (o9 ++ [nd k]) (f1 || decide (60 < o9.length + 1))) (hold : Rz w0 s w i1 o1 false) (hi : i ≤ i1) (ho : o1.length + i ≤ out.length + i1) (hij : i1 + 1 ≤ j)
    (a : j ≤ i9) (b : o9.length + j ≤ o1.length + i9) (c : f1 = false → r1 = some (i9, o9) ∧ o9.length ≤ 60) (d : f1 = true → Long r1) (hn : r1 = none → r = none) (hs : ∀ i o, r1 = some (i, o) → prs s g (.loop n) i (o ++ [nd k]) = some r) (hg : g ≤ F) (h2 : n ≤ 2) :
    LzRel w0 s i out r F n w' ∧ mz w0.heap.size s.length w' < mz w0.heap.size s.length w := by
  have hle := hold.le
  rw [hold.mz_good]
  cases f1
  · obtain ⟨c1, c2⟩ := c rfl
    rw [Bool.false_or] at hz
    have hs1 := hs _ _ c1
    cases hq : decide (60 < o9.length + 1)
    · rw [hq] at hz
      have h60 := of_decide_eq_false hq
      refine ⟨⟨i9, o9 ++ [nd k], false, hz, by omega, by simp; omega, fun _ => ⟨by simp; omega, g, hg, hs1⟩, fun h => by cases h⟩, ?_⟩
      rw [hz.mz_good]
      omega
    · rw [hq] at hz
      have h60 := of_decide_eq_true hq
      refine ⟨⟨i9, o9 ++ [nd k], true, hz, by omega, by simp; omega, (fun h => by cases h), fun _ => prs_long hs1 h2 hz.le (by simp; omega)⟩, ?_⟩
      rw [hz.mz_bad]
      omega
  · rw [Bool.true_or] at hz
    refine ⟨⟨i9, o9 ++ [nd k], true, hz, by omega, by simp; omega, (fun h => by cases h), fun _ => long_loop hp hmd hj (d rfl) hn hs h2⟩, ?_⟩
    rw [hz.mz_bad]
    omega
end
theorem loop_none {s : List UInt8} {g n i : Nat} {out : List Nd} {r : Option St} (h : prs s g (.loop n) i out = some r) (hk : opK n s[skip s i]? = none) : r = some (skip s i, out) := by
  cases g with
  | zero => cases h
  | succ g =>
    unfold prs at h
    rw [hk] at h
    exact (Option.some.inj h).symm
theorem loop_some {s : List UInt8} {g n i : Nat} {out : List Nd} {r : Option St} {k : Int} (h : prs s g (.loop n) i out = some r) (hk : opK n s[skip s i]? = some k) :
    ∃ g' r1, g' < g ∧ prs s g' (.lev (n + 1)) (skip s i + 1) out = some r1 ∧ (r1 = none → r = none) ∧ ∀ i o, r1 = some (i, o) → prs s g' (.loop n) i (o ++ [nd k]) = some r := by
  cases g with
  | zero => cases h
  | succ g =>
    unfold prs at h
    rw [hk] at h
    obtain ⟨r1, h1, h2, h3⟩ := thenP_got h
    exact ⟨g, r1, Nat.lt_succ_self g, h1, h2, h3⟩
theorem opK_no {n : Nat} {s : List UInt8} {i : Nat} (h0 : n = 0 → stands s i [61] = false) (h1 : n = 1 → stands s i [43] = false ∧ stands s i [45] = false) (h2 : n = 2 → stands s i [42] = false ∧ stands s i [47] = false) : opK n s[skip s i]? = none := by
  have key : ∀ c : UInt8, stands s i [c] = false → s[skip s i]? ≠ some c := fun c h h9 => by rw [stands_one, h9] at h; simp at h
  unfold opK
  split
  · rename_i c hc
    rw [if_neg (fun h9 => key 61 (h0 rfl) (by rw [hc, h9]))]
  · rename_i c hc
    rw [if_neg (fun h9 => key 43 (h1 rfl).1 (by rw [hc, h9])), if_neg (fun h9 => key 45 (h1 rfl).2 (by rw [hc, h9]))]
  · rename_i c hc
    rw [if_neg (fun h9 => key 42 (h2 rfl).1 (by rw [hc, h9])), if_neg (fun h9 => key 47 (h2 rfl).2 (by rw [hc, h9]))]
  · rfl
theorem level2_walkS (w0 : World) (s : List UInt8) (hs : s.length ≤ 1000000) (f : Nat) (IH : IHz w0 s (f + 1)) (i : Nat) (out : List Nd) (r : Option St) (hp : prs s (f + 1) (.lev 2) i out = some r) (w : World) (h : Rz w0 s w i out false) (hlen : out.length ≤ i) (h60 : out.length ≤ 60) :
    Calls Tryd.prog 68 #[.pointer (some ⟨w0.heap.size, 0, none⟩)] w (RzEnd w0 s i out false r) := by
  have H := Lib.hid h
  have hil := h.le
  clear h
  obtain ⟨r1, hp1, hn1, hs1⟩ := thenP_got (show thenP (prs s f (.lev (2 + 1)) i out) (fun i o => prs s f (.loop 2) i o) = some r from hp)
  have HW := Lib.hid (fun w' hw' => IH f (Nat.lt_succ_self f) (.lev (2 + 1)) i out r1 hp1 (show 2 + 1 ≤ 3 by omega) w' hw' hlen h60)
  have HS := Lib.hid hs1
  have HN := Lib.hid hn1
  have HP := Lib.hid hp1
  clear hp hs1 hn1 hp1
  go_enter Tryd.func68, Tryd.ntmps68
  go_wp2_with fail
  go_at_call 86
  refine (HW.out _ H.out).mono ?_
  rintro e w1 ⟨rfl, hr1⟩
  obtain ⟨i1, o1, f1, hz, a, b, c, d⟩ := hr1.parts
  have HSTART := Lib.hid (lz_start (w0 := w0) (r := r) (n := 2) HP.out (show 2 + 1 ≤ 3 by omega) hil hz a b c d HN.out HS.out (by omega))
  clear hr1 hz a b c d
  go_wp2_with fail
  go_loopw [] (fun wr => LzRel w0 s i out r f 2 wr) (fun wr => mz w0.heap.size s.length wr)
  case atStart => exact HSTART.out
  case round =>
    obtain ⟨i1, o1, f1, hz, a, b, c, d⟩ := hrel
    have HZ := Lib.hid hz
    have hil1 := hz.le
    obtain ⟨q0, q1, q2, k1, k2⟩ := hz.cells
    clear hz
    have hsg1 := skip_ge s i1
    cases f1
    · obtain ⟨c60, g, hgf, hgp⟩ := c rfl
      have hol : o1.length ≤ i1 := by omega
      clear c d
      cases b0 : stands s i1 [42]
      · cases b1 : stands s i1 [47]
        · have hr := loop_none hgp (opK_no (fun h => by cases h) (fun h => by cases h) (fun _ => ⟨b0, b1⟩))
          clear hgp
          go_wp2_with fail
          go_at_call 46
          refine (wordS_no _ 42 [] rfl (by decide) (by decide) w0 _ s hs i1 hil1 o1 false (by rw [b0]; rfl) (.inl HZ.out)).mono ?_
          rintro e w2 ⟨rfl, hr2⟩
          have HX1 := Lib.hid hr2
          clear hr2
          go_wp2_with fail
          go_at_call 46
          refine (wordS_no _ 47 [] rfl (by decide) (by decide) w0 _ s hs i1 hil1 o1 false (by rw [b1]; rfl) (.inr HX1.out)).mono ?_
          rintro e w2 ⟨rfl, hr2⟩
          have HX2 := Lib.hid hr2
          clear hr2
          go_wp2
          first
            | refine bodyPost_end (results_none rfl _ _ _) rfl ⟨rfl, rz_fine HX2.out (by omega) (by omega) hr c60⟩
            | refine bodyPost_ret (results_none rfl _ _ _) rfl ⟨rfl, rz_fine HX2.out (by omega) (by omega) hr c60⟩
        · have hopk : opK 2 s[skip s i1]? = some 11 := by rw [stands_head b1]; rfl
          have hle := stands_le hil1 b1
          have hle' : skip s i1 + 1 ≤ s.length := by simpa using hle
          obtain ⟨g', r9, hg9, hp9, hn9, hs9⟩ := loop_some hgp hopk
          have HW9 := Lib.hid (fun w' hw' => IH g' (by omega) (.lev (2 + 1)) (skip s i1 + 1) o1 r9 hp9 (show 2 + 1 ≤ 3 by omega) w' hw' (by omega) c60)
          have HS9 := Lib.hid hs9
          have HN9 := Lib.hid hn9
          have HP9 := Lib.hid hp9
          clear hopk hle hs9 hn9 hp9 hgp
          go_wp2_with fail
          go_at_call 46
          refine (wordS_no _ 42 [] rfl (by decide) (by decide) w0 _ s hs i1 hil1 o1 false (by rw [b0]; rfl) (.inl HZ.out)).mono ?_
          rintro e w2 ⟨rfl, hr2⟩
          have HX1 := Lib.hid hr2
          clear hr2
          go_wp2_with fail
          go_at_call 46
          refine (wordS_yes _ 47 [] rfl (by decide) (by decide) w0 _ s hs i1 hil1 o1 b1 (.inr HX1.out) (skip s i1 + 1) rfl).mono ?_
          rintro e w3 ⟨rfl, hr3⟩
          have HY := Lib.hid hr3
          clear hr3
          go_wp2_with fail
          go_at_call 86
          refine (HW9.out _ HY.out).mono ?_
          rintro e w5 ⟨rfl, hr5⟩
          obtain ⟨i9, o9, f9, hz9, a9, b9, c9, d9⟩ := hr5.parts
          have HZ9 := Lib.hid hz9
          have hi9 := hz9.le
          clear hr5 hz9
          go_wp2_with fail
          go_at_call 47
          refine (putS_any (nd 11) w0 _ s i9 o9 f9 (by omega) HZ9.out).mono ?_
          rintro e w6 ⟨rfl, hr6⟩
          have HE := Lib.hid (lz_next (i := i) (out := out) (r := r) (F := f) HP9.out (show 2 + 1 ≤ 3 by omega) hle' hr6 HZ.out a b (by omega) a9 b9 c9 d9 HN9.out HS9.out (by omega) (by omega))
          clear hr6
          go_wp2
          case roundEnd => exact HE.out
      · have hopk : opK 2 s[skip s i1]? = some 10 := by rw [stands_head b0]; rfl
        have hle := stands_le hil1 b0
        have hle' : skip s i1 + 1 ≤ s.length := by simpa using hle
        obtain ⟨g', r9, hg9, hp9, hn9, hs9⟩ := loop_some hgp hopk
        have HW9 := Lib.hid (fun w' hw' => IH g' (by omega) (.lev (2 + 1)) (skip s i1 + 1) o1 r9 hp9 (show 2 + 1 ≤ 3 by omega) w' hw' (by omega) c60)
        have HS9 := Lib.hid hs9
        have HN9 := Lib.hid hn9
        have HP9 := Lib.hid hp9
        clear hopk hle hs9 hn9 hp9 hgp
        go_wp2_with fail
        go_at_call 46
        refine (wordS_yes _ 42 [] rfl (by decide) (by decide) w0 _ s hs i1 hil1 o1 b0 (.inl HZ.out) (skip s i1 + 1) rfl).mono ?_
        rintro e w3 ⟨rfl, hr3⟩
        have HY := Lib.hid hr3
        clear hr3
        go_wp2_with fail
        go_at_call 86
        refine (HW9.out _ HY.out).mono ?_
        rintro e w5 ⟨rfl, hr5⟩
        obtain ⟨i9, o9, f9, hz9, a9, b9, c9, d9⟩ := hr5.parts
        have HZ9 := Lib.hid hz9
        have hi9 := hz9.le
        clear hr5 hz9
        go_wp2_with fail
        go_at_call 47
        refine (putS_any (nd 10) w0 _ s i9 o9 f9 (by omega) HZ9.out).mono ?_
        rintro e w6 ⟨rfl, hr6⟩
        have HE := Lib.hid (lz_next (i := i) (out := out) (r := r) (F := f) HP9.out (show 2 + 1 ≤ 3 by omega) hle' hr6 HZ.out a b (by omega) a9 b9 c9 d9 HN9.out HS9.out (by omega) (by omega))
        clear hr6
        go_wp2
        case roundEnd => exact HE.out
    · have hl := d rfl
      clear c d
      go_wp2
      first
        | refine bodyPost_end (results_none rfl _ _ _) rfl ⟨rfl, rz_long HZ.out (by omega) (by omega) hl⟩
        | refine bodyPost_ret (results_none rfl _ _ _) rfl ⟨rfl, rz_long HZ.out (by omega) (by omega) hl⟩
theorem level1_walkS (w0 : World) (s : List UInt8) (hs : s.length ≤ 1000000) (f : Nat) (IH : IHz w0 s (f + 1)) (i : Nat) (out : List Nd) (r : Option St) (hp : prs s (f + 1) (.lev 1) i out = some r) (w : World) (h : Rz w0 s w i out false) (hlen : out.length ≤ i) (h60 : out.length ≤ 60) :
    Calls Tryd.prog 45 #[.pointer (some ⟨w0.heap.size, 0, none⟩)] w (RzEnd w0 s i out false r) := by
  have H := Lib.hid h
  have hil := h.le
  clear h
  obtain ⟨r1, hp1, hn1, hs1⟩ := thenP_got (show thenP (prs s f (.lev (1 + 1)) i out) (fun i o => prs s f (.loop 1) i o) = some r from hp)
  have HW := Lib.hid (fun w' hw' => IH f (Nat.lt_succ_self f) (.lev (1 + 1)) i out r1 hp1 (show 1 + 1 ≤ 3 by omega) w' hw' hlen h60)
  have HS := Lib.hid hs1
  have HN := Lib.hid hn1
  have HP := Lib.hid hp1
  clear hp hs1 hn1 hp1
  go_enter Tryd.func45, Tryd.ntmps45
  go_wp2_with fail
  go_at_call 68
  refine (HW.out _ H.out).mono ?_
  rintro e w1 ⟨rfl, hr1⟩
  obtain ⟨i1, o1, f1, hz, a, b, c, d⟩ := hr1.parts
  have HSTART := Lib.hid (lz_start (w0 := w0) (r := r) (n := 1) HP.out (show 1 + 1 ≤ 3 by omega) hil hz a b c d HN.out HS.out (by omega))
  clear hr1 hz a b c d
  go_wp2_with fail
  go_loopw [] (fun wr => LzRel w0 s i out r f 1 wr) (fun wr => mz w0.heap.size s.length wr)
  case atStart => exact HSTART.out
  case round =>
    obtain ⟨i1, o1, f1, hz, a, b, c, d⟩ := hrel
    have HZ := Lib.hid hz
    have hil1 := hz.le
    obtain ⟨q0, q1, q2, k1, k2⟩ := hz.cells
    clear hz
    have hsg1 := skip_ge s i1
    cases f1
    · obtain ⟨c60, g, hgf, hgp⟩ := c rfl
      have hol : o1.length ≤ i1 := by omega
      clear c d
      cases b0 : stands s i1 [43]
      · cases b1 : stands s i1 [45]
        · have hr := loop_none hgp (opK_no (fun h => by cases h) (fun _ => ⟨b0, b1⟩) (fun h => by cases h))
          clear hgp
          go_wp2_with fail
          go_at_call 46
          refine (wordS_no _ 43 [] rfl (by decide) (by decide) w0 _ s hs i1 hil1 o1 false (by rw [b0]; rfl) (.inl HZ.out)).mono ?_
          rintro e w2 ⟨rfl, hr2⟩
          have HX1 := Lib.hid hr2
          clear hr2
          go_wp2_with fail
          go_at_call 46
          refine (wordS_no _ 45 [] rfl (by decide) (by decide) w0 _ s hs i1 hil1 o1 false (by rw [b1]; rfl) (.inr HX1.out)).mono ?_
          rintro e w2 ⟨rfl, hr2⟩
          have HX2 := Lib.hid hr2
          clear hr2
          go_wp2
          first
            | refine bodyPost_end (results_none rfl _ _ _) rfl ⟨rfl, rz_fine HX2.out (by omega) (by omega) hr c60⟩
            | refine bodyPost_ret (results_none rfl _ _ _) rfl ⟨rfl, rz_fine HX2.out (by omega) (by omega) hr c60⟩
        · have hopk : opK 1 s[skip s i1]? = some 9 := by rw [stands_head b1]; rfl
          have hle := stands_le hil1 b1
          have hle' : skip s i1 + 1 ≤ s.length := by simpa using hle
          obtain ⟨g', r9, hg9, hp9, hn9, hs9⟩ := loop_some hgp hopk
          have HW9 := Lib.hid (fun w' hw' => IH g' (by omega) (.lev (1 + 1)) (skip s i1 + 1) o1 r9 hp9 (show 1 + 1 ≤ 3 by omega) w' hw' (by omega) c60)
          have HS9 := Lib.hid hs9
          have HN9 := Lib.hid hn9
          have HP9 := Lib.hid hp9
          clear hopk hle hs9 hn9 hp9 hgp
          go_wp2_with fail
          go_at_call 46
          refine (wordS_no _ 43 [] rfl (by decide) (by decide) w0 _ s hs i1 hil1 o1 false (by rw [b0]; rfl) (.inl HZ.out)).mono ?_
          rintro e w2 ⟨rfl, hr2⟩
          have HX1 := Lib.hid hr2
          clear hr2
          go_wp2_with fail
          go_at_call 46
          refine (wordS_yes _ 45 [] rfl (by decide) (by decide) w0 _ s hs i1 hil1 o1 b1 (.inr HX1.out) (skip s i1 + 1) rfl).mono ?_
          rintro e w3 ⟨rfl, hr3⟩
          have HY := Lib.hid hr3
          clear hr3
          go_wp2_with fail
          go_at_call 68
          refine (HW9.out _ HY.out).mono ?_
          rintro e w5 ⟨rfl, hr5⟩
          obtain ⟨i9, o9, f9, hz9, a9, b9, c9, d9⟩ := hr5.parts
          have HZ9 := Lib.hid hz9
          have hi9 := hz9.le
          clear hr5 hz9
          go_wp2_with fail
          go_at_call 47
          refine (putS_any (nd 9) w0 _ s i9 o9 f9 (by omega) HZ9.out).mono ?_
          rintro e w6 ⟨rfl, hr6⟩
          have HE := Lib.hid (lz_next (i := i) (out := out) (r := r) (F := f) HP9.out (show 1 + 1 ≤ 3 by omega) hle' hr6 HZ.out a b (by omega) a9 b9 c9 d9 HN9.out HS9.out (by omega) (by omega))
          clear hr6
          go_wp2
          case roundEnd => exact HE.out
      · have hopk : opK 1 s[skip s i1]? = some 8 := by rw [stands_head b0]; rfl
        have hle := stands_le hil1 b0
        have hle' : skip s i1 + 1 ≤ s.length := by simpa using hle
        obtain ⟨g', r9, hg9, hp9, hn9, hs9⟩ := loop_some hgp hopk
        have HW9 := Lib.hid (fun w' hw' => IH g' (by omega) (.lev (1 + 1)) (skip s i1 + 1) o1 r9 hp9 (show 1 + 1 ≤ 3 by omega) w' hw' (by omega) c60)
        have HS9 := Lib.hid hs9
        have HN9 := Lib.hid hn9
        have HP9 := Lib.hid hp9
        clear hopk hle hs9 hn9 hp9 hgp
        go_wp2_with fail
        go_at_call 46
        refine (wordS_yes _ 43 [] rfl (by decide) (by decide) w0 _ s hs i1 hil1 o1 b0 (.inl HZ.out) (skip s i1 + 1) rfl).mono ?_
        rintro e w3 ⟨rfl, hr3⟩
        have HY := Lib.hid hr3
        clear hr3
        go_wp2_with fail
        go_at_call 68
        refine (HW9.out _ HY.out).mono ?_
        rintro e w5 ⟨rfl, hr5⟩
        obtain ⟨i9, o9, f9, hz9, a9, b9, c9, d9⟩ := hr5.parts
        have HZ9 := Lib.hid hz9
        have hi9 := hz9.le
        clear hr5 hz9
        go_wp2_with fail
        go_at_call 47
        refine (putS_any (nd 8) w0 _ s i9 o9 f9 (by omega) HZ9.out).mono ?_
        rintro e w6 ⟨rfl, hr6⟩
        have HE := Lib.hid (lz_next (i := i) (out := out) (r := r) (F := f) HP9.out (show 1 + 1 ≤ 3 by omega) hle' hr6 HZ.out a b (by omega) a9 b9 c9 d9 HN9.out HS9.out (by omega) (by omega))
        clear hr6
        go_wp2
        case roundEnd => exact HE.out
    · have hl := d rfl
      clear c d
      go_wp2
      first
        | refine bodyPost_end (results_none rfl _ _ _) rfl ⟨rfl, rz_long HZ.out (by omega) (by omega) hl⟩
        | refine bodyPost_ret (results_none rfl _ _ _) rfl ⟨rfl, rz_long HZ.out (by omega) (by omega) hl⟩
theorem level0_walkS (w0 : World) (s : List UInt8) (hs : s.length ≤ 1000000) (f : Nat) (IH : IHz w0 s (f + 1)) (i : Nat) (out : List Nd) (r : Option St) (hp : prs s (f + 1) (.lev 0) i out = some r) (w : World) (h : Rz w0 s w i out false) (hlen : out.length ≤ i) (h60 : out.length ≤ 60) :
    Calls Tryd.prog 27 #[.pointer (some ⟨w0.heap.size, 0, none⟩)] w (RzEnd w0 s i out false r) := by
  have H := Lib.hid h
  have hil := h.le
  clear h
  obtain ⟨r1, hp1, hn1, hs1⟩ := thenP_got (show thenP (prs s f (.lev (0 + 1)) i out) (fun i o => prs s f (.loop 0) i o) = some r from hp)
  have HW := Lib.hid (fun w' hw' => IH f (Nat.lt_succ_self f) (.lev (0 + 1)) i out r1 hp1 (show 0 + 1 ≤ 3 by omega) w' hw' hlen h60)
  have HS := Lib.hid hs1
  have HN := Lib.hid hn1
  have HP := Lib.hid hp1
  clear hp hs1 hn1 hp1
  go_enter Tryd.func27, Tryd.ntmps27
  go_wp2_with fail
  go_at_call 45
  refine (HW.out _ H.out).mono ?_
  rintro e w1 ⟨rfl, hr1⟩
  obtain ⟨i1, o1, f1, hz, a, b, c, d⟩ := hr1.parts
  have HSTART := Lib.hid (lz_start (w0 := w0) (r := r) (n := 0) HP.out (show 0 + 1 ≤ 3 by omega) hil hz a b c d HN.out HS.out (by omega))
  clear hr1 hz a b c d
  go_wp2_with fail
  go_loopw [] (fun wr => LzRel w0 s i out r f 0 wr) (fun wr => mz w0.heap.size s.length wr)
  case atStart => exact HSTART.out
  case round =>
    obtain ⟨i1, o1, f1, hz, a, b, c, d⟩ := hrel
    have HZ := Lib.hid hz
    have hil1 := hz.le
    obtain ⟨q0, q1, q2, k1, k2⟩ := hz.cells
    clear hz
    have hsg1 := skip_ge s i1
    cases f1
    · obtain ⟨c60, g, hgf, hgp⟩ := c rfl
      have hol : o1.length ≤ i1 := by omega
      clear c d
      cases b0 : stands s i1 [61]
      · have hr := loop_none hgp (opK_no (fun _ => b0) (fun h => by cases h) (fun h => by cases h))
        clear hgp
        go_wp2_with fail
        go_at_call 46
        refine (wordS_no _ 61 [] rfl (by decide) (by decide) w0 _ s hs i1 hil1 o1 false (by rw [b0]; rfl) (.inl HZ.out)).mono ?_
        rintro e w2 ⟨rfl, hr2⟩
        have HX1 := Lib.hid hr2
        clear hr2
        go_wp2
        first
          | refine bodyPost_end (results_none rfl _ _ _) rfl ⟨rfl, rz_fine HX1.out (by omega) (by omega) hr c60⟩
          | refine bodyPost_ret (results_none rfl _ _ _) rfl ⟨rfl, rz_fine HX1.out (by omega) (by omega) hr c60⟩
      · have hopk : opK 0 s[skip s i1]? = some 12 := by rw [stands_head b0]; rfl
        have hle := stands_le hil1 b0
        have hle' : skip s i1 + 1 ≤ s.length := by simpa using hle
        obtain ⟨g', r9, hg9, hp9, hn9, hs9⟩ := loop_some hgp hopk
        have HW9 := Lib.hid (fun w' hw' => IH g' (by omega) (.lev (0 + 1)) (skip s i1 + 1) o1 r9 hp9 (show 0 + 1 ≤ 3 by omega) w' hw' (by omega) c60)
        have HS9 := Lib.hid hs9
        have HN9 := Lib.hid hn9
        have HP9 := Lib.hid hp9
        clear hopk hle hs9 hn9 hp9 hgp
        go_wp2_with fail
        go_at_call 46
        refine (wordS_yes _ 61 [] rfl (by decide) (by decide) w0 _ s hs i1 hil1 o1 b0 (.inl HZ.out) (skip s i1 + 1) rfl).mono ?_
        rintro e w3 ⟨rfl, hr3⟩
        have HY := Lib.hid hr3
        clear hr3
        go_wp2_with fail
        go_at_call 45
        refine (HW9.out _ HY.out).mono ?_
        rintro e w5 ⟨rfl, hr5⟩
        obtain ⟨i9, o9, f9, hz9, a9, b9, c9, d9⟩ := hr5.parts
        have HZ9 := Lib.hid hz9
        have hi9 := hz9.le
        clear hr5 hz9
        go_wp2_with fail
        go_at_call 47
        refine (putS_any (nd 12) w0 _ s i9 o9 f9 (by omega) HZ9.out).mono ?_
        rintro e w6 ⟨rfl, hr6⟩
        have HE := Lib.hid (lz_next (i := i) (out := out) (r := r) (F := f) HP9.out (show 0 + 1 ≤ 3 by omega) hle' hr6 HZ.out a b (by omega) a9 b9 c9 d9 HN9.out HS9.out (by omega) (by omega))
        clear hr6
        go_wp2
        case roundEnd => exact HE.out
    · have hl := d rfl
      clear c d
      go_wp2
      first
        | refine bodyPost_end (results_none rfl _ _ _) rfl ⟨rfl, rz_long HZ.out (by omega) (by omega) hl⟩
        | refine bodyPost_ret (results_none rfl _ _ _) rfl ⟨rfl, rz_long HZ.out (by omega) (by omega) hl⟩
theorem ihz_all (w0 : World) (s : List UInt8) (hs : s.length ≤ 1000000) : ∀ F, IHz w0 s F
  | 0 => fun f' hf => absurd hf (Nat.not_lt_zero _)
  | F + 1 => fun f' hf md i out r hp hmd w h hlen h60 => by
    have IHF : IHz w0 s f' := fun g hg => ihz_all w0 s hs F g (by omega)
    cases f' with
    | zero => cases hp
    | succ f =>
      cases md with
      | fac => exact factor_walkS w0 s hs f IHF i out r hp w h hlen h60
      | loop n => trivial
      | word k => trivial
      | lev n =>
        match n, hmd, hp with
        | 0, _, hp => exact level0_walkS w0 s hs f IHF i out r hp w h hlen h60
        | 1, _, hp => exact level1_walkS w0 s hs f IHF i out r hp w h hlen h60
        | 2, _, hp => exact level2_walkS w0 s hs f IHF i out r hp w h hlen h60
        | 3, _, hp => exact IHF f (Nat.lt_succ_self f) .fac i out r hp trivial w h hlen h60
        | n + 4, hmd, _ => exact absurd hmd (by show ¬ n + 4 ≤ 3; omega)
end Go.Proofs.YtjgjgjkffoagoaaDoor
