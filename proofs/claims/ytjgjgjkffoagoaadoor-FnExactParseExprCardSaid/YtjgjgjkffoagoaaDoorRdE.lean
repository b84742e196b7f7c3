/- The reader of expressions walked: the levels. Condition: the table of powers of ten is laid. (printed by genrde.py) -/
import Derived.Test.YtjgjgjkffoagoaaDoorRdD
namespace Go.Proofs.YtjgjgjkffoagoaaDoor
open Go.RowKit
attribute [local go_sem] run_store_float run_store_complex
set_option maxRecDepth 100000
set_option maxHeartbeats 2000000
set_option linter.unusedVariables false
set_option linter.unusedSimpArgs false

/-- What reading behind a word ends with. -/
def WordEnd (w0 wb : World) (s : List UInt8) (i : Nat) (out : List Nd) (r : Option St) (e : Ending) (w' : World) : Prop :=
  e = .returned (.tuple #[]) ∧ ∃ i' out', Rd w0 wb s w' i' out' r.isNone ∧ (∀ p, r = some p → p = (i', out')) ∧ i ≤ i' ∧ out'.length + i ≤ out.length + i' + 1
/-- The contract of one of the reader's functions. -/
def MdCalls (w0 wb : World) (s : List UInt8) (md : Md) (w : World) (i : Nat) (out : List Nd) (r : Option St) : Prop := match md with
  | .lev n => n ≤ 3 → Calls Tryd.prog 24 #[.pointer (some ⟨w0.heap.size, 0, none⟩), .int .i64 (n : Int)] w (RdEnd w0 wb s i out r)
  | .loop _ => True
  | .fac => Calls Tryd.prog 41 #[.pointer (some ⟨w0.heap.size, 0, none⟩)] w (RdEnd w0 wb s i out r)
  | .word k => Calls Tryd.prog 64 #[.pointer (some ⟨w0.heap.size, 0, none⟩), .int .i64 k] w (WordEnd w0 wb s i out r)
/-- All contracts with less breath than F. -/
def IHs (w0 : World) (s : List UInt8) (F : Nat) : Prop := ∀ f', f' < F → ∀ md i out r, prs s f' md i out = some r → ∀ wb w, Rd w0 wb s w i out false → out.length ≤ i → MdCalls w0 wb s md w i out r

theorem nextB_lt (s : List UInt8) (i : Nat) : nextB s i < 256 := by unfold nextB; exact (s[skip s i]?.getD 0).toNat_lt
theorem sign_at (sb : ByteArray) (l : List UInt8) (hsb : sb.data.toList = l) (c : Int) (x : Nat) (hc : c = (x : Int)) (j : Int) (h : Lib.indexByte l (UInt8.ofNat x) = j) (w : World) :
    Calls Tryd.prog 42 #[.string sb, .int .u8 c] w fun e w' => e = .returned (.int .i64 j) ∧ w' = w := by
  subst hc hsb
  refine (Tryd.strings_IndexByte _ _ _).mono ?_
  rintro e w9 ⟨rfl, hw⟩
  exact ⟨by rw [← h]; rfl, hw⟩
theorem index_no : ∀ (l : List UInt8) (c : UInt8), (∀ b ∈ l, b ≠ c) → Lib.indexByte l c = -1
  | [], c, _ => rfl
  | b :: l, c, h => by
    have h1 : (b == c) = false := beq_eq_false_iff_ne.2 (h b (by simp))
    have ih := index_no l c (fun y hy => h y (by simp [hy]))
    show (if b == c then 0 else if Lib.indexByte l c == -1 then -1 else Lib.indexByte l c + 1) = _
    rw [h1, ih]; rfl
/-- The loop's relation. -/
def LvRel (w0 w1 : World) (s : List UInt8) (n F i : Nat) (out : List Nd) (r : Option St) (wr : World) : Prop :=
  ∃ k o ff, Rd w0 w1 s wr k o ff ∧ i ≤ k ∧ o.length + i ≤ out.length + k ∧ (ff = false → ∃ f', f' < F ∧ prs s f' (.loop n) k o = some r) ∧ (ff = true → r = none)
theorem lv_go {w0 w1 wr : World} {s : List UInt8} {n F i k f' : Nat} {out o : List Nd} {r : Option St} (h : Rd w0 w1 s wr k o false) (hk : i ≤ k) (ho : o.length + i ≤ out.length + k) (hf : f' < F) (hp : prs s f' (.loop n) k o = some r) : LvRel w0 w1 s n F i out r wr :=
  ⟨k, o, false, h, hk, ho, fun _ => ⟨f', hf, hp⟩, fun h => by cases h⟩
theorem lv_no {w0 w1 wr : World} {s : List UInt8} {n F i k : Nat} {out o : List Nd} {r : Option St} (h : Rd w0 w1 s wr k o true) (hk : i ≤ k) (ho : o.length + i ≤ out.length + k) (hr : r = none) : LvRel w0 w1 s n F i out r wr :=
  ⟨k, o, true, h, hk, ho, fun h => (by cases h), fun _ => hr⟩
theorem prs_loop_no {s : List UInt8} {n f' k : Nat} {o : List Nd} {r : Option St} (h : prs s f' (.loop n) k o = some r) (hk : opK n s[skip s k]? = none) : r = some (skip s k, o) := by
  cases f' with
  | zero => cases h
  | succ f =>
    have h2 : (match opK n s[skip s k]? with
      | none => some (some (skip s k, o))
      | some K => thenP (prs s f (.lev (n + 1)) (skip s k + 1) o) (fun i o => prs s f (.loop n) i (o ++ [nd K]))) = some r := h
    rw [hk] at h2
    exact (Option.some.inj h2).symm
theorem prs_loop_op {s : List UInt8} {n f' k : Nat} {o : List Nd} {r : Option St} {K : Int} (h : prs s f' (.loop n) k o = some r) (hk : opK n s[skip s k]? = some K) :
    ∃ f, f < f' ∧ ((∃ x, prs s f (.lev (n + 1)) (skip s k + 1) o = some x) ∧ ((prs s f (.lev (n + 1)) (skip s k + 1) o = some none ∧ r = none) ∨ ∃ i2 o2, prs s f (.lev (n + 1)) (skip s k + 1) o = some (some (i2, o2)) ∧ prs s f (.loop n) i2 (o2 ++ [nd K]) = some r)) := by
  cases f' with
  | zero => cases h
  | succ f =>
    have h2 : (match opK n s[skip s k]? with
      | none => some (some (skip s k, o))
      | some K => thenP (prs s f (.lev (n + 1)) (skip s k + 1) o) (fun i o => prs s f (.loop n) i (o ++ [nd K]))) = some r := h
    rw [hk] at h2
    refine ⟨f, Nat.lt_succ_self f, ?_⟩
    cases hx : prs s f (.lev (n + 1)) (skip s k + 1) o with
    | none => rw [hx] at h2; cases h2
    | some x =>
      refine ⟨⟨x, rfl⟩, ?_⟩
      rw [hx] at h2
      cases x with
      | none => exact .inl ⟨rfl, (Option.some.inj h2).symm⟩
      | some p => exact .inr ⟨p.1, p.2, rfl, h2⟩
theorem prs_lev {s : List UInt8} {n F i : Nat} {out : List Nd} {r : Option St} (hn : n ≠ 3) (h : prs s F (.lev n) i out = some r) :
    ∃ f, f < F ∧ ((∃ x, prs s f (.lev (n + 1)) i out = some x) ∧ ((prs s f (.lev (n + 1)) i out = some none ∧ r = none) ∨ ∃ i2 o2, prs s f (.lev (n + 1)) i out = some (some (i2, o2)) ∧ prs s f (.loop n) i2 o2 = some r)) := by
  cases F with
  | zero => cases h
  | succ f =>
    have h2 : (if n = 3 then prs s f .fac i out else thenP (prs s f (.lev (n + 1)) i out) (fun i o => prs s f (.loop n) i o)) = some r := h
    rw [if_neg hn] at h2
    refine ⟨f, Nat.lt_succ_self f, ?_⟩
    cases hx : prs s f (.lev (n + 1)) i out with
    | none => rw [hx] at h2; cases h2
    | some x =>
      refine ⟨⟨x, rfl⟩, ?_⟩
      rw [hx] at h2
      cases x with
      | none => exact .inl ⟨rfl, (Option.some.inj h2).symm⟩
      | some p => exact .inr ⟨p.1, p.2, rfl, h2⟩
theorem nextB_some {s : List UInt8} {k : Nat} {c : UInt8} (h : s[skip s k]? = some c) : nextB s k = c.toNat ∧ skip s k < s.length := by
  refine ⟨by unfold nextB; rw [h]; rfl, ?_⟩
  rcases Nat.lt_or_ge (skip s k) s.length with h1 | h1
  · exact h1
  · rw [List.getElem?_eq_none h1] at h; cases h
theorem nextB_ne {s : List UInt8} {k : Nat} {c : UInt8} (h : s[skip s k]? ≠ some c) (h0 : c ≠ 0) : c ≠ UInt8.ofNat (nextB s k) := by
  intro hc
  unfold nextB at hc
  cases hq : s[skip s k]? with
  | none => rw [hq] at hc; exact h0 (by simpa using hc)
  | some d =>
    rw [hq] at hc
    apply h
    rw [hq]
    simp at hc
    rw [hc]
theorem level_walk0 (w0 : World) (s : List UInt8) (hs : s.length ≤ 1000000) (F : Nat) (IH : IHs w0 s F) (i : Nat) (out : List Nd) (r : Option St) (hp : prs s F (.lev 0) i out = some r) (wb w : World) (h : Rd w0 wb s w i out false) (hlen : out.length ≤ i) :
    Calls Tryd.prog 24 #[.pointer (some ⟨w0.heap.size, 0, none⟩), .int .i64 0] w (RdEnd w0 wb s i out r) := by
  have hil := h.le
  have hcw := h.lt
  obtain ⟨f, hf, ⟨x, hx⟩, hor⟩ := prs_lev (by decide) hp
  have HIH := Lib.hid IH
  have HOR := Lib.hid hor
  have HX := Lib.hid hx
  have hr1 : Rd w0 wb s (((((w.alloc (.cells #[.string ⟨#[61]⟩, .string ⟨#[43, 45]⟩, .string ⟨#[42, 47]⟩] 9)).alloc (.cells #[.int .i64 12] 3)).alloc (.cells #[.int .i64 8, .int .i64 9] 3)).alloc (.cells #[.int .i64 10, .int .i64 11] 3)).alloc (.cells #[.slice (some ⟨w.heap.size + 1, 0, none⟩) 1 1, .slice (some ⟨w.heap.size + 1 + 1, 0, none⟩) 2 2, .slice (some ⟨w.heap.size + 1 + 1 + 1, 0, none⟩) 2 2] 50)) i out false := h.below (by repeat (first | exact Below.refl _ _ | assumption | refine bl_drewN ?_ _ | refine bl_drew ?_ | refine bl_alloc ?_ _ | refine bl_set ?_ (by first | (simp; done) | (simp; omega) | omega | (simp [World.setCell]; done) | (simp [World.setCell]; omega)) _ | refine bl_call ?_ (by assumption)))
  have hkb : Blk (((((w.alloc (.cells #[.string ⟨#[61]⟩, .string ⟨#[43, 45]⟩, .string ⟨#[42, 47]⟩] 9)).alloc (.cells #[.int .i64 12] 3)).alloc (.cells #[.int .i64 8, .int .i64 9] 3)).alloc (.cells #[.int .i64 10, .int .i64 11] 3)).alloc (.cells #[.slice (some ⟨w.heap.size + 1, 0, none⟩) 1 1, .slice (some ⟨w.heap.size + 1 + 1, 0, none⟩) 2 2, .slice (some ⟨w.heap.size + 1 + 1 + 1, 0, none⟩) 2 2] 50)) (w.heap.size + 1) 3 #[.int .i64 12] := (((Blk.new_at _ _ _ (by simp)).alloc _).alloc _).alloc _
  have hvb : ∀ v, World.cell? (((((w.alloc (.cells #[.string ⟨#[61]⟩, .string ⟨#[43, 45]⟩, .string ⟨#[42, 47]⟩] 9)).alloc (.cells #[.int .i64 12] 3)).alloc (.cells #[.int .i64 8, .int .i64 9] 3)).alloc (.cells #[.int .i64 10, .int .i64 11] 3)).alloc (.cells #[.slice (some ⟨w.heap.size + 1, 0, none⟩) 1 1, .slice (some ⟨w.heap.size + 1 + 1, 0, none⟩) 2 2, .slice (some ⟨w.heap.size + 1 + 1 + 1, 0, none⟩) 2 2] 50)) ⟨w0.heap.size, 2, none⟩ = some v → v.ownBlock ≠ some (w.heap.size + 1) := fun v hv hg => by
    have hv' : w.cell? ⟨w0.heap.size, 2, none⟩ = some v := (Below.cell (show Below w.heap.size w (((((w.alloc (.cells #[.string ⟨#[61]⟩, .string ⟨#[43, 45]⟩, .string ⟨#[42, 47]⟩] 9)).alloc (.cells #[.int .i64 12] 3)).alloc (.cells #[.int .i64 8, .int .i64 9] 3)).alloc (.cells #[.int .i64 10, .int .i64 11] 3)).alloc (.cells #[.slice (some ⟨w.heap.size + 1, 0, none⟩) 1 1, .slice (some ⟨w.heap.size + 1 + 1, 0, none⟩) 2 2, .slice (some ⟨w.heap.size + 1 + 1 + 1, 0, none⟩) 2 2] 50)) from by repeat (first | exact Below.refl _ _ | assumption | refine bl_drewN ?_ _ | refine bl_drew ?_ | refine bl_alloc ?_ _ | refine bl_set ?_ (by first | (simp; done) | (simp; omega) | omega | (simp [World.setCell]; done) | (simp [World.setCell]; omega)) _ | refine bl_call ?_ (by assumption))) (p := ⟨w0.heap.size, 2, none⟩) hcw).symm.trans hv
    have := own_lt h hv' hg
    omega
  have hkc : w.heap.size + 1 ≠ w0.heap.size := by omega
  clear hp IH h hor hx
  go_enter Tryd.func24, Tryd.ntmps24
  go_wp2_with fail
  generalize (((((w.alloc (.cells #[.string ⟨#[61]⟩, .string ⟨#[43, 45]⟩, .string ⟨#[42, 47]⟩] 9)).alloc (.cells #[.int .i64 12] 3)).alloc (.cells #[.int .i64 8, .int .i64 9] 3)).alloc (.cells #[.int .i64 10, .int .i64 11] 3)).alloc (.cells #[.slice (some ⟨w.heap.size + 1, 0, none⟩) 1 1, .slice (some ⟨w.heap.size + 1 + 1, 0, none⟩) 2 2, .slice (some ⟨w.heap.size + 1 + 1 + 1, 0, none⟩) 2 2] 50)) = w1 at hr1 hkb hvb ⊢
  generalize w.heap.size + 1 = kb at hkb hvb hkc ⊢
  have HR1 := Lib.hid hr1
  have HKB := Lib.hid hkb
  have HVB := Lib.hid hvb
  clear hr1 hkb hvb
  go_at_call 24
  refine (HIH.out f hf (.lev 1) i out x HX.out w1 w1 HR1.out.rebase hlen (by decide)).mono ?_
  rintro e w2 ⟨rfl, hr2⟩
  have HST : Hid (LvRel w0 w1 s 0 F i out r w2) := Lib.hid (by
    rcases HOR.out with ⟨h1, h2⟩ | ⟨i2, o2, h1, h2⟩
    · have := Option.some.inj (HX.out.symm.trans h1)
      subst this
      obtain ⟨k, o, g1, g2, g3⟩ := hr2.fail
      exact lv_no g1 g2 g3 h2
    · have := Option.some.inj (HX.out.symm.trans h1)
      subst this
      obtain ⟨g1, g2, g3⟩ := hr2.some
      exact lv_go g1 g2 g3 hf h2)
  clear hr2
  go_wp2
  go_loopw [] (fun wr => LvRel w0 w1 s 0 F i out r wr) (fun wr => s.length - atOf w0.heap.size wr)
  case atStart => exact HST.out
  case round =>
    obtain ⟨k, o, ff, hrd, hik, hol, hgo, hno⟩ := hrel
    have HRD := Lib.hid hrd
    obtain ⟨q0, q1, q3, f1, f2, f3⟩ := hrd.cells
    have hkl := hrd.le
    clear hrd
    cases ff
    case true =>
      have HE := Lib.hid (rd_no (i := i) (out := out) HRD.out hik hol (hno rfl))
      clear hgo hno
      go_wp2
      first
        | refine bodyPost_end (results_none rfl _ _ _) rfl ⟨rfl, HE.out.onto HR1.out.frm⟩
        | refine bodyPost_ret (results_none rfl _ _ _) rfl ⟨rfl, HE.out.onto HR1.out.frm⟩
    case false =>
      obtain ⟨f', hf', hpl⟩ := hgo rfl
      have HPL := Lib.hid hpl
      clear hgo hno hpl
      by_cases h61 : s[skip s k]? = some 61
      · obtain ⟨hnb, hsk⟩ := nextB_some h61
        have hnb : nextB s k = 61 := hnb
        obtain ⟨g, hg, ⟨y, hy⟩, hor⟩ := prs_loop_op (K := 12) HPL.out (by rw [h61]; rfl)
        have HNB := Lib.hid hnb
        have HY := Lib.hid hy
        have HOR2 := Lib.hid hor
        have HSK := Lib.hid h61
        have hge := skip_ge s k
        clear hnb hy hor h61
        go_wp2_with fail
        go_at_call 25
        refine (spaces_any w0 w1 _ s hs k o false HRD.out).mono ?_
        rintro e w3 ⟨he, hr3⟩
        rw [HNB.out] at he
        subst he
        have HR3 := Lib.hid hr3
        obtain ⟨p0, p1, p3, l1, l2, l3⟩ := hr3.cells
        have HR4 : Hid (Rd w0 w1 s (w3.setCell ⟨w0.heap.size, 1, none⟩ (.int .i64 ((skip s k : Int) + 1))) (skip s k + 1) o false) := Lib.hid (hr3.setAt' (by simp) hsk)
        clear hr3 q0 q1 q3 f1 f2 f3
        go_wp2_with (go_at_call 42; (with_reducible refine (sign_at ⟨#[61]⟩ [61] rfl 61 61 rfl 0 (by decide) _).mono ?_); rintro e w9 ⟨rfl, hw9⟩; have hw9x := hw9.symm; clear hw9; subst hw9x)
        go_at_call 24
        refine (HIH.out g (by omega) (.lev 1) (skip s k + 1) o y HY.out w1 _ HR4.out (by omega) (by decide)).mono ?_
        rintro e w5 ⟨rfl, hr5⟩
        obtain ⟨i5, o5, h5, h5p, h5i, h5o⟩ := hr5
        have HR5 := Lib.hid h5
        have HP5 := Lib.hid h5p
        have hl5 := h5.le
        have hkb5 := (blk_kept HKB.out h5.frm hkc HVB.out).cell 0
        clear h5 h5p p0 p1 p3 l1 l2 l3
        go_wp2_with fail
        go_at_call 43
        refine (put_any 12 w0 w1 _ s i5 o5 _ (by omega) HR5.out).mono ?_
        rintro e w6 ⟨rfl, hr6⟩
        have HN : Hid (LvRel w0 w1 s 0 F i out r w6 ∧ s.length - atOf w0.heap.size w6 < s.length - atOf w0.heap.size wr) := Lib.hid (by
          refine ⟨?_, by rw [hr6.atOf, HRD.out.atOf]; omega⟩
          rcases HOR2.out with ⟨h1, h2⟩ | ⟨i2, o2, h1, h2⟩
          · have := Option.some.inj (HY.out.symm.trans h1)
            subst this
            exact lv_no hr6 (by omega) (by simp; omega) h2
          · have := Option.some.inj (HY.out.symm.trans h1)
            subst this
            have h3 := HP5.out _ rfl
            cases h3
            exact lv_go hr6 (by omega) (by simp; omega) (by omega) h2)
        clear hr6
        go_wp2
        case roundEnd => exact HN.out
      have hopn : opK 0 s[skip s k]? = none := by
        cases hq : s[skip s k]? with
        | none => rfl
        | some c =>
          have g61 : c ≠ 61 := fun hc => h61 (by rw [hq, hc])
          show (if c = 61 then some 12 else none : Option Int) = none
          rw [if_neg g61]
      have hrr := prs_loop_no HPL.out hopn
      have hix : Lib.indexByte [61] (UInt8.ofNat (nextB s k)) = -1 := index_no _ _ (fun b hb => by
        rcases List.mem_cons.1 hb with hb1 | hb
        · rw [hb1]; exact nextB_ne h61 (by decide)
        cases hb)
      have HIX := Lib.hid hix
      have hge := skip_ge s k
      have HE : Hid (∀ w', Rd w0 w1 s w' (skip s k) o false → RdR w0 w1 s w' i out r) := Lib.hid fun w' hw' => rd_some hrr hw' (by omega) (by omega)
      clear hix hopn hrr h61
      obtain ⟨z, hz⟩ : ∃ z, nextB s k = z := ⟨_, rfl⟩
      rw [hz] at HIX
      have HZ := Lib.hid hz
      clear hz
      by_cases hz0 : z = 0
      all_goals
        first
        | (have hz1 : ((z : Int) == 0) = true := beq_iff_eq.2 (by omega); have hz2 := hz1)
        | (have hz1 : ((z : Int) == 0) = false := beq_eq_false_iff_ne.2 (by omega); have hz2 := hz1)
        clear hz0
        go_wp2_with fail
        go_at_call 25
        refine (spaces_any w0 w1 _ s hs k o false HRD.out).mono ?_
        rintro e w3 ⟨he, hr3⟩
        rw [HZ.out] at he
        subst he
        have HR3 := Lib.hid hr3
        clear hr3
        go_wp2_with (go_at_call 42; (with_reducible refine (sign_at ⟨#[61]⟩ [61] rfl _ z rfl (-1) HIX.out _).mono ?_); rintro e w9 ⟨rfl, hw9⟩; have hw9x := hw9.symm; clear hw9; subst hw9x)
        first
          | refine bodyPost_end (results_none rfl _ _ _) rfl ⟨rfl, (HE.out _ HR3.out).onto HR1.out.frm⟩
          | refine bodyPost_ret (results_none rfl _ _ _) rfl ⟨rfl, (HE.out _ HR3.out).onto HR1.out.frm⟩
theorem level_walk1 (w0 : World) (s : List UInt8) (hs : s.length ≤ 1000000) (F : Nat) (IH : IHs w0 s F) (i : Nat) (out : List Nd) (r : Option St) (hp : prs s F (.lev 1) i out = some r) (wb w : World) (h : Rd w0 wb s w i out false) (hlen : out.length ≤ i) :
    Calls Tryd.prog 24 #[.pointer (some ⟨w0.heap.size, 0, none⟩), .int .i64 1] w (RdEnd w0 wb s i out r) := by
  have hil := h.le
  have hcw := h.lt
  obtain ⟨f, hf, ⟨x, hx⟩, hor⟩ := prs_lev (by decide) hp
  have HIH := Lib.hid IH
  have HOR := Lib.hid hor
  have HX := Lib.hid hx
  have hr1 : Rd w0 wb s (((((w.alloc (.cells #[.string ⟨#[61]⟩, .string ⟨#[43, 45]⟩, .string ⟨#[42, 47]⟩] 9)).alloc (.cells #[.int .i64 12] 3)).alloc (.cells #[.int .i64 8, .int .i64 9] 3)).alloc (.cells #[.int .i64 10, .int .i64 11] 3)).alloc (.cells #[.slice (some ⟨w.heap.size + 1, 0, none⟩) 1 1, .slice (some ⟨w.heap.size + 1 + 1, 0, none⟩) 2 2, .slice (some ⟨w.heap.size + 1 + 1 + 1, 0, none⟩) 2 2] 50)) i out false := h.below (by repeat (first | exact Below.refl _ _ | assumption | refine bl_drewN ?_ _ | refine bl_drew ?_ | refine bl_alloc ?_ _ | refine bl_set ?_ (by first | (simp; done) | (simp; omega) | omega | (simp [World.setCell]; done) | (simp [World.setCell]; omega)) _ | refine bl_call ?_ (by assumption)))
  have hkb : Blk (((((w.alloc (.cells #[.string ⟨#[61]⟩, .string ⟨#[43, 45]⟩, .string ⟨#[42, 47]⟩] 9)).alloc (.cells #[.int .i64 12] 3)).alloc (.cells #[.int .i64 8, .int .i64 9] 3)).alloc (.cells #[.int .i64 10, .int .i64 11] 3)).alloc (.cells #[.slice (some ⟨w.heap.size + 1, 0, none⟩) 1 1, .slice (some ⟨w.heap.size + 1 + 1, 0, none⟩) 2 2, .slice (some ⟨w.heap.size + 1 + 1 + 1, 0, none⟩) 2 2] 50)) (w.heap.size + 1 + 1) 3 #[.int .i64 8, .int .i64 9] := ((Blk.new_at _ _ _ (by simp)).alloc _).alloc _
  have hvb : ∀ v, World.cell? (((((w.alloc (.cells #[.string ⟨#[61]⟩, .string ⟨#[43, 45]⟩, .string ⟨#[42, 47]⟩] 9)).alloc (.cells #[.int .i64 12] 3)).alloc (.cells #[.int .i64 8, .int .i64 9] 3)).alloc (.cells #[.int .i64 10, .int .i64 11] 3)).alloc (.cells #[.slice (some ⟨w.heap.size + 1, 0, none⟩) 1 1, .slice (some ⟨w.heap.size + 1 + 1, 0, none⟩) 2 2, .slice (some ⟨w.heap.size + 1 + 1 + 1, 0, none⟩) 2 2] 50)) ⟨w0.heap.size, 2, none⟩ = some v → v.ownBlock ≠ some (w.heap.size + 1 + 1) := fun v hv hg => by
    have hv' : w.cell? ⟨w0.heap.size, 2, none⟩ = some v := (Below.cell (show Below w.heap.size w (((((w.alloc (.cells #[.string ⟨#[61]⟩, .string ⟨#[43, 45]⟩, .string ⟨#[42, 47]⟩] 9)).alloc (.cells #[.int .i64 12] 3)).alloc (.cells #[.int .i64 8, .int .i64 9] 3)).alloc (.cells #[.int .i64 10, .int .i64 11] 3)).alloc (.cells #[.slice (some ⟨w.heap.size + 1, 0, none⟩) 1 1, .slice (some ⟨w.heap.size + 1 + 1, 0, none⟩) 2 2, .slice (some ⟨w.heap.size + 1 + 1 + 1, 0, none⟩) 2 2] 50)) from by repeat (first | exact Below.refl _ _ | assumption | refine bl_drewN ?_ _ | refine bl_drew ?_ | refine bl_alloc ?_ _ | refine bl_set ?_ (by first | (simp; done) | (simp; omega) | omega | (simp [World.setCell]; done) | (simp [World.setCell]; omega)) _ | refine bl_call ?_ (by assumption))) (p := ⟨w0.heap.size, 2, none⟩) hcw).symm.trans hv
    have := own_lt h hv' hg
    omega
  have hkc : w.heap.size + 1 + 1 ≠ w0.heap.size := by omega
  clear hp IH h hor hx
  go_enter Tryd.func24, Tryd.ntmps24
  go_wp2_with fail
  generalize (((((w.alloc (.cells #[.string ⟨#[61]⟩, .string ⟨#[43, 45]⟩, .string ⟨#[42, 47]⟩] 9)).alloc (.cells #[.int .i64 12] 3)).alloc (.cells #[.int .i64 8, .int .i64 9] 3)).alloc (.cells #[.int .i64 10, .int .i64 11] 3)).alloc (.cells #[.slice (some ⟨w.heap.size + 1, 0, none⟩) 1 1, .slice (some ⟨w.heap.size + 1 + 1, 0, none⟩) 2 2, .slice (some ⟨w.heap.size + 1 + 1 + 1, 0, none⟩) 2 2] 50)) = w1 at hr1 hkb hvb ⊢
  generalize w.heap.size + 1 + 1 = kb at hkb hvb hkc ⊢
  have HR1 := Lib.hid hr1
  have HKB := Lib.hid hkb
  have HVB := Lib.hid hvb
  clear hr1 hkb hvb
  go_at_call 24
  refine (HIH.out f hf (.lev 2) i out x HX.out w1 w1 HR1.out.rebase hlen (by decide)).mono ?_
  rintro e w2 ⟨rfl, hr2⟩
  have HST : Hid (LvRel w0 w1 s 1 F i out r w2) := Lib.hid (by
    rcases HOR.out with ⟨h1, h2⟩ | ⟨i2, o2, h1, h2⟩
    · have := Option.some.inj (HX.out.symm.trans h1)
      subst this
      obtain ⟨k, o, g1, g2, g3⟩ := hr2.fail
      exact lv_no g1 g2 g3 h2
    · have := Option.some.inj (HX.out.symm.trans h1)
      subst this
      obtain ⟨g1, g2, g3⟩ := hr2.some
      exact lv_go g1 g2 g3 hf h2)
  clear hr2
  go_wp2
  go_loopw [] (fun wr => LvRel w0 w1 s 1 F i out r wr) (fun wr => s.length - atOf w0.heap.size wr)
  case atStart => exact HST.out
  case round =>
    obtain ⟨k, o, ff, hrd, hik, hol, hgo, hno⟩ := hrel
    have HRD := Lib.hid hrd
    obtain ⟨q0, q1, q3, f1, f2, f3⟩ := hrd.cells
    have hkl := hrd.le
    clear hrd
    cases ff
    case true =>
      have HE := Lib.hid (rd_no (i := i) (out := out) HRD.out hik hol (hno rfl))
      clear hgo hno
      go_wp2
      first
        | refine bodyPost_end (results_none rfl _ _ _) rfl ⟨rfl, HE.out.onto HR1.out.frm⟩
        | refine bodyPost_ret (results_none rfl _ _ _) rfl ⟨rfl, HE.out.onto HR1.out.frm⟩
    case false =>
      obtain ⟨f', hf', hpl⟩ := hgo rfl
      have HPL := Lib.hid hpl
      clear hgo hno hpl
      by_cases h43 : s[skip s k]? = some 43
      · obtain ⟨hnb, hsk⟩ := nextB_some h43
        have hnb : nextB s k = 43 := hnb
        obtain ⟨g, hg, ⟨y, hy⟩, hor⟩ := prs_loop_op (K := 8) HPL.out (by rw [h43]; rfl)
        have HNB := Lib.hid hnb
        have HY := Lib.hid hy
        have HOR2 := Lib.hid hor
        have HSK := Lib.hid h43
        have hge := skip_ge s k
        clear hnb hy hor h43
        go_wp2_with fail
        go_at_call 25
        refine (spaces_any w0 w1 _ s hs k o false HRD.out).mono ?_
        rintro e w3 ⟨he, hr3⟩
        rw [HNB.out] at he
        subst he
        have HR3 := Lib.hid hr3
        obtain ⟨p0, p1, p3, l1, l2, l3⟩ := hr3.cells
        have HR4 : Hid (Rd w0 w1 s (w3.setCell ⟨w0.heap.size, 1, none⟩ (.int .i64 ((skip s k : Int) + 1))) (skip s k + 1) o false) := Lib.hid (hr3.setAt' (by simp) hsk)
        clear hr3 q0 q1 q3 f1 f2 f3
        go_wp2_with (go_at_call 42; (with_reducible refine (sign_at ⟨#[43, 45]⟩ [43, 45] rfl 43 43 rfl 0 (by decide) _).mono ?_); rintro e w9 ⟨rfl, hw9⟩; have hw9x := hw9.symm; clear hw9; subst hw9x)
        go_at_call 24
        refine (HIH.out g (by omega) (.lev 2) (skip s k + 1) o y HY.out w1 _ HR4.out (by omega) (by decide)).mono ?_
        rintro e w5 ⟨rfl, hr5⟩
        obtain ⟨i5, o5, h5, h5p, h5i, h5o⟩ := hr5
        have HR5 := Lib.hid h5
        have HP5 := Lib.hid h5p
        have hl5 := h5.le
        have hkb5 := (blk_kept HKB.out h5.frm hkc HVB.out).cell 0
        clear h5 h5p p0 p1 p3 l1 l2 l3
        go_wp2_with fail
        go_at_call 43
        refine (put_any 8 w0 w1 _ s i5 o5 _ (by omega) HR5.out).mono ?_
        rintro e w6 ⟨rfl, hr6⟩
        have HN : Hid (LvRel w0 w1 s 1 F i out r w6 ∧ s.length - atOf w0.heap.size w6 < s.length - atOf w0.heap.size wr) := Lib.hid (by
          refine ⟨?_, by rw [hr6.atOf, HRD.out.atOf]; omega⟩
          rcases HOR2.out with ⟨h1, h2⟩ | ⟨i2, o2, h1, h2⟩
          · have := Option.some.inj (HY.out.symm.trans h1)
            subst this
            exact lv_no hr6 (by omega) (by simp; omega) h2
          · have := Option.some.inj (HY.out.symm.trans h1)
            subst this
            have h3 := HP5.out _ rfl
            cases h3
            exact lv_go hr6 (by omega) (by simp; omega) (by omega) h2)
        clear hr6
        go_wp2
        case roundEnd => exact HN.out
      by_cases h45 : s[skip s k]? = some 45
      · obtain ⟨hnb, hsk⟩ := nextB_some h45
        have hnb : nextB s k = 45 := hnb
        obtain ⟨g, hg, ⟨y, hy⟩, hor⟩ := prs_loop_op (K := 9) HPL.out (by rw [h45]; rfl)
        have HNB := Lib.hid hnb
        have HY := Lib.hid hy
        have HOR2 := Lib.hid hor
        have HSK := Lib.hid h45
        have hge := skip_ge s k
        clear hnb hy hor h45
        go_wp2_with fail
        go_at_call 25
        refine (spaces_any w0 w1 _ s hs k o false HRD.out).mono ?_
        rintro e w3 ⟨he, hr3⟩
        rw [HNB.out] at he
        subst he
        have HR3 := Lib.hid hr3
        obtain ⟨p0, p1, p3, l1, l2, l3⟩ := hr3.cells
        have HR4 : Hid (Rd w0 w1 s (w3.setCell ⟨w0.heap.size, 1, none⟩ (.int .i64 ((skip s k : Int) + 1))) (skip s k + 1) o false) := Lib.hid (hr3.setAt' (by simp) hsk)
        clear hr3 q0 q1 q3 f1 f2 f3
        go_wp2_with (go_at_call 42; (with_reducible refine (sign_at ⟨#[43, 45]⟩ [43, 45] rfl 45 45 rfl 1 (by decide) _).mono ?_); rintro e w9 ⟨rfl, hw9⟩; have hw9x := hw9.symm; clear hw9; subst hw9x)
        go_at_call 24
        refine (HIH.out g (by omega) (.lev 2) (skip s k + 1) o y HY.out w1 _ HR4.out (by omega) (by decide)).mono ?_
        rintro e w5 ⟨rfl, hr5⟩
        obtain ⟨i5, o5, h5, h5p, h5i, h5o⟩ := hr5
        have HR5 := Lib.hid h5
        have HP5 := Lib.hid h5p
        have hl5 := h5.le
        have hkb5 := (blk_kept HKB.out h5.frm hkc HVB.out).cell 1
        clear h5 h5p p0 p1 p3 l1 l2 l3
        go_wp2_with fail
        go_at_call 43
        refine (put_any 9 w0 w1 _ s i5 o5 _ (by omega) HR5.out).mono ?_
        rintro e w6 ⟨rfl, hr6⟩
        have HN : Hid (LvRel w0 w1 s 1 F i out r w6 ∧ s.length - atOf w0.heap.size w6 < s.length - atOf w0.heap.size wr) := Lib.hid (by
          refine ⟨?_, by rw [hr6.atOf, HRD.out.atOf]; omega⟩
          rcases HOR2.out with ⟨h1, h2⟩ | ⟨i2, o2, h1, h2⟩
          · have := Option.some.inj (HY.out.symm.trans h1)
            subst this
            exact lv_no hr6 (by omega) (by simp; omega) h2
          · have := Option.some.inj (HY.out.symm.trans h1)
            subst this
            have h3 := HP5.out _ rfl
            cases h3
            exact lv_go hr6 (by omega) (by simp; omega) (by omega) h2)
        clear hr6
        go_wp2
        case roundEnd => exact HN.out
      have hopn : opK 1 s[skip s k]? = none := by
        cases hq : s[skip s k]? with
        | none => rfl
        | some c =>
          have g43 : c ≠ 43 := fun hc => h43 (by rw [hq, hc])
          have g45 : c ≠ 45 := fun hc => h45 (by rw [hq, hc])
          show (if c = 43 then some 8 else if c = 45 then some 9 else none : Option Int) = none
          rw [if_neg g43, if_neg g45]
      have hrr := prs_loop_no HPL.out hopn
      have hix : Lib.indexByte [43, 45] (UInt8.ofNat (nextB s k)) = -1 := index_no _ _ (fun b hb => by
        rcases List.mem_cons.1 hb with hb1 | hb
        · rw [hb1]; exact nextB_ne h43 (by decide)
        rcases List.mem_cons.1 hb with hb1 | hb
        · rw [hb1]; exact nextB_ne h45 (by decide)
        cases hb)
      have HIX := Lib.hid hix
      have hge := skip_ge s k
      have HE : Hid (∀ w', Rd w0 w1 s w' (skip s k) o false → RdR w0 w1 s w' i out r) := Lib.hid fun w' hw' => rd_some hrr hw' (by omega) (by omega)
      clear hix hopn hrr h43 h45
      obtain ⟨z, hz⟩ : ∃ z, nextB s k = z := ⟨_, rfl⟩
      rw [hz] at HIX
      have HZ := Lib.hid hz
      clear hz
      by_cases hz0 : z = 0
      all_goals
        first
        | (have hz1 : ((z : Int) == 0) = true := beq_iff_eq.2 (by omega); have hz2 := hz1)
        | (have hz1 : ((z : Int) == 0) = false := beq_eq_false_iff_ne.2 (by omega); have hz2 := hz1)
        clear hz0
        go_wp2_with fail
        go_at_call 25
        refine (spaces_any w0 w1 _ s hs k o false HRD.out).mono ?_
        rintro e w3 ⟨he, hr3⟩
        rw [HZ.out] at he
        subst he
        have HR3 := Lib.hid hr3
        clear hr3
        go_wp2_with (go_at_call 42; (with_reducible refine (sign_at ⟨#[43, 45]⟩ [43, 45] rfl _ z rfl (-1) HIX.out _).mono ?_); rintro e w9 ⟨rfl, hw9⟩; have hw9x := hw9.symm; clear hw9; subst hw9x)
        first
          | refine bodyPost_end (results_none rfl _ _ _) rfl ⟨rfl, (HE.out _ HR3.out).onto HR1.out.frm⟩
          | refine bodyPost_ret (results_none rfl _ _ _) rfl ⟨rfl, (HE.out _ HR3.out).onto HR1.out.frm⟩
theorem level_walk2 (w0 : World) (s : List UInt8) (hs : s.length ≤ 1000000) (F : Nat) (IH : IHs w0 s F) (i : Nat) (out : List Nd) (r : Option St) (hp : prs s F (.lev 2) i out = some r) (wb w : World) (h : Rd w0 wb s w i out false) (hlen : out.length ≤ i) :
    Calls Tryd.prog 24 #[.pointer (some ⟨w0.heap.size, 0, none⟩), .int .i64 2] w (RdEnd w0 wb s i out r) := by
  have hil := h.le
  have hcw := h.lt
  obtain ⟨f, hf, ⟨x, hx⟩, hor⟩ := prs_lev (by decide) hp
  have HIH := Lib.hid IH
  have HOR := Lib.hid hor
  have HX := Lib.hid hx
  have hr1 : Rd w0 wb s (((((w.alloc (.cells #[.string ⟨#[61]⟩, .string ⟨#[43, 45]⟩, .string ⟨#[42, 47]⟩] 9)).alloc (.cells #[.int .i64 12] 3)).alloc (.cells #[.int .i64 8, .int .i64 9] 3)).alloc (.cells #[.int .i64 10, .int .i64 11] 3)).alloc (.cells #[.slice (some ⟨w.heap.size + 1, 0, none⟩) 1 1, .slice (some ⟨w.heap.size + 1 + 1, 0, none⟩) 2 2, .slice (some ⟨w.heap.size + 1 + 1 + 1, 0, none⟩) 2 2] 50)) i out false := h.below (by repeat (first | exact Below.refl _ _ | assumption | refine bl_drewN ?_ _ | refine bl_drew ?_ | refine bl_alloc ?_ _ | refine bl_set ?_ (by first | (simp; done) | (simp; omega) | omega | (simp [World.setCell]; done) | (simp [World.setCell]; omega)) _ | refine bl_call ?_ (by assumption)))
  have hkb : Blk (((((w.alloc (.cells #[.string ⟨#[61]⟩, .string ⟨#[43, 45]⟩, .string ⟨#[42, 47]⟩] 9)).alloc (.cells #[.int .i64 12] 3)).alloc (.cells #[.int .i64 8, .int .i64 9] 3)).alloc (.cells #[.int .i64 10, .int .i64 11] 3)).alloc (.cells #[.slice (some ⟨w.heap.size + 1, 0, none⟩) 1 1, .slice (some ⟨w.heap.size + 1 + 1, 0, none⟩) 2 2, .slice (some ⟨w.heap.size + 1 + 1 + 1, 0, none⟩) 2 2] 50)) (w.heap.size + 1 + 1 + 1) 3 #[.int .i64 10, .int .i64 11] := (Blk.new_at _ _ _ (by simp)).alloc _
  have hvb : ∀ v, World.cell? (((((w.alloc (.cells #[.string ⟨#[61]⟩, .string ⟨#[43, 45]⟩, .string ⟨#[42, 47]⟩] 9)).alloc (.cells #[.int .i64 12] 3)).alloc (.cells #[.int .i64 8, .int .i64 9] 3)).alloc (.cells #[.int .i64 10, .int .i64 11] 3)).alloc (.cells #[.slice (some ⟨w.heap.size + 1, 0, none⟩) 1 1, .slice (some ⟨w.heap.size + 1 + 1, 0, none⟩) 2 2, .slice (some ⟨w.heap.size + 1 + 1 + 1, 0, none⟩) 2 2] 50)) ⟨w0.heap.size, 2, none⟩ = some v → v.ownBlock ≠ some (w.heap.size + 1 + 1 + 1) := fun v hv hg => by
    have hv' : w.cell? ⟨w0.heap.size, 2, none⟩ = some v := (Below.cell (show Below w.heap.size w (((((w.alloc (.cells #[.string ⟨#[61]⟩, .string ⟨#[43, 45]⟩, .string ⟨#[42, 47]⟩] 9)).alloc (.cells #[.int .i64 12] 3)).alloc (.cells #[.int .i64 8, .int .i64 9] 3)).alloc (.cells #[.int .i64 10, .int .i64 11] 3)).alloc (.cells #[.slice (some ⟨w.heap.size + 1, 0, none⟩) 1 1, .slice (some ⟨w.heap.size + 1 + 1, 0, none⟩) 2 2, .slice (some ⟨w.heap.size + 1 + 1 + 1, 0, none⟩) 2 2] 50)) from by repeat (first | exact Below.refl _ _ | assumption | refine bl_drewN ?_ _ | refine bl_drew ?_ | refine bl_alloc ?_ _ | refine bl_set ?_ (by first | (simp; done) | (simp; omega) | omega | (simp [World.setCell]; done) | (simp [World.setCell]; omega)) _ | refine bl_call ?_ (by assumption))) (p := ⟨w0.heap.size, 2, none⟩) hcw).symm.trans hv
    have := own_lt h hv' hg
    omega
  have hkc : w.heap.size + 1 + 1 + 1 ≠ w0.heap.size := by omega
  clear hp IH h hor hx
  go_enter Tryd.func24, Tryd.ntmps24
  go_wp2_with fail
  generalize (((((w.alloc (.cells #[.string ⟨#[61]⟩, .string ⟨#[43, 45]⟩, .string ⟨#[42, 47]⟩] 9)).alloc (.cells #[.int .i64 12] 3)).alloc (.cells #[.int .i64 8, .int .i64 9] 3)).alloc (.cells #[.int .i64 10, .int .i64 11] 3)).alloc (.cells #[.slice (some ⟨w.heap.size + 1, 0, none⟩) 1 1, .slice (some ⟨w.heap.size + 1 + 1, 0, none⟩) 2 2, .slice (some ⟨w.heap.size + 1 + 1 + 1, 0, none⟩) 2 2] 50)) = w1 at hr1 hkb hvb ⊢
  generalize w.heap.size + 1 + 1 + 1 = kb at hkb hvb hkc ⊢
  have HR1 := Lib.hid hr1
  have HKB := Lib.hid hkb
  have HVB := Lib.hid hvb
  clear hr1 hkb hvb
  go_at_call 24
  refine (HIH.out f hf (.lev 3) i out x HX.out w1 w1 HR1.out.rebase hlen (by decide)).mono ?_
  rintro e w2 ⟨rfl, hr2⟩
  have HST : Hid (LvRel w0 w1 s 2 F i out r w2) := Lib.hid (by
    rcases HOR.out with ⟨h1, h2⟩ | ⟨i2, o2, h1, h2⟩
    · have := Option.some.inj (HX.out.symm.trans h1)
      subst this
      obtain ⟨k, o, g1, g2, g3⟩ := hr2.fail
      exact lv_no g1 g2 g3 h2
    · have := Option.some.inj (HX.out.symm.trans h1)
      subst this
      obtain ⟨g1, g2, g3⟩ := hr2.some
      exact lv_go g1 g2 g3 hf h2)
  clear hr2
  go_wp2
  go_loopw [] (fun wr => LvRel w0 w1 s 2 F i out r wr) (fun wr => s.length - atOf w0.heap.size wr)
  case atStart => exact HST.out
  case round =>
    obtain ⟨k, o, ff, hrd, hik, hol, hgo, hno⟩ := hrel
    have HRD := Lib.hid hrd
    obtain ⟨q0, q1, q3, f1, f2, f3⟩ := hrd.cells
    have hkl := hrd.le
    clear hrd
    cases ff
    case true =>
      have HE := Lib.hid (rd_no (i := i) (out := out) HRD.out hik hol (hno rfl))
      clear hgo hno
      go_wp2
      first
        | refine bodyPost_end (results_none rfl _ _ _) rfl ⟨rfl, HE.out.onto HR1.out.frm⟩
        | refine bodyPost_ret (results_none rfl _ _ _) rfl ⟨rfl, HE.out.onto HR1.out.frm⟩
    case false =>
      obtain ⟨f', hf', hpl⟩ := hgo rfl
      have HPL := Lib.hid hpl
      clear hgo hno hpl
      by_cases h42 : s[skip s k]? = some 42
      · obtain ⟨hnb, hsk⟩ := nextB_some h42
        have hnb : nextB s k = 42 := hnb
        obtain ⟨g, hg, ⟨y, hy⟩, hor⟩ := prs_loop_op (K := 10) HPL.out (by rw [h42]; rfl)
        have HNB := Lib.hid hnb
        have HY := Lib.hid hy
        have HOR2 := Lib.hid hor
        have HSK := Lib.hid h42
        have hge := skip_ge s k
        clear hnb hy hor h42
        go_wp2_with fail
        go_at_call 25
        refine (spaces_any w0 w1 _ s hs k o false HRD.out).mono ?_
        rintro e w3 ⟨he, hr3⟩
        rw [HNB.out] at he
        subst he
        have HR3 := Lib.hid hr3
        obtain ⟨p0, p1, p3, l1, l2, l3⟩ := hr3.cells
        have HR4 : Hid (Rd w0 w1 s (w3.setCell ⟨w0.heap.size, 1, none⟩ (.int .i64 ((skip s k : Int) + 1))) (skip s k + 1) o false) := Lib.hid (hr3.setAt' (by simp) hsk)
        clear hr3 q0 q1 q3 f1 f2 f3
        go_wp2_with (go_at_call 42; (with_reducible refine (sign_at ⟨#[42, 47]⟩ [42, 47] rfl 42 42 rfl 0 (by decide) _).mono ?_); rintro e w9 ⟨rfl, hw9⟩; have hw9x := hw9.symm; clear hw9; subst hw9x)
        go_at_call 24
        refine (HIH.out g (by omega) (.lev 3) (skip s k + 1) o y HY.out w1 _ HR4.out (by omega) (by decide)).mono ?_
        rintro e w5 ⟨rfl, hr5⟩
        obtain ⟨i5, o5, h5, h5p, h5i, h5o⟩ := hr5
        have HR5 := Lib.hid h5
        have HP5 := Lib.hid h5p
        have hl5 := h5.le
        have hkb5 := (blk_kept HKB.out h5.frm hkc HVB.out).cell 0
        clear h5 h5p p0 p1 p3 l1 l2 l3
        go_wp2_with fail
        go_at_call 43
        refine (put_any 10 w0 w1 _ s i5 o5 _ (by omega) HR5.out).mono ?_
        rintro e w6 ⟨rfl, hr6⟩
        have HN : Hid (LvRel w0 w1 s 2 F i out r w6 ∧ s.length - atOf w0.heap.size w6 < s.length - atOf w0.heap.size wr) := Lib.hid (by
          refine ⟨?_, by rw [hr6.atOf, HRD.out.atOf]; omega⟩
          rcases HOR2.out with ⟨h1, h2⟩ | ⟨i2, o2, h1, h2⟩
          · have := Option.some.inj (HY.out.symm.trans h1)
            subst this
            exact lv_no hr6 (by omega) (by simp; omega) h2
          · have := Option.some.inj (HY.out.symm.trans h1)
            subst this
            have h3 := HP5.out _ rfl
            cases h3
            exact lv_go hr6 (by omega) (by simp; omega) (by omega) h2)
        clear hr6
        go_wp2
        case roundEnd => exact HN.out
      by_cases h47 : s[skip s k]? = some 47
      · obtain ⟨hnb, hsk⟩ := nextB_some h47
        have hnb : nextB s k = 47 := hnb
        obtain ⟨g, hg, ⟨y, hy⟩, hor⟩ := prs_loop_op (K := 11) HPL.out (by rw [h47]; rfl)
        have HNB := Lib.hid hnb
        have HY := Lib.hid hy
        have HOR2 := Lib.hid hor
        have HSK := Lib.hid h47
        have hge := skip_ge s k
        clear hnb hy hor h47
        go_wp2_with fail
        go_at_call 25
        refine (spaces_any w0 w1 _ s hs k o false HRD.out).mono ?_
        rintro e w3 ⟨he, hr3⟩
        rw [HNB.out] at he
        subst he
        have HR3 := Lib.hid hr3
        obtain ⟨p0, p1, p3, l1, l2, l3⟩ := hr3.cells
        have HR4 : Hid (Rd w0 w1 s (w3.setCell ⟨w0.heap.size, 1, none⟩ (.int .i64 ((skip s k : Int) + 1))) (skip s k + 1) o false) := Lib.hid (hr3.setAt' (by simp) hsk)
        clear hr3 q0 q1 q3 f1 f2 f3
        go_wp2_with (go_at_call 42; (with_reducible refine (sign_at ⟨#[42, 47]⟩ [42, 47] rfl 47 47 rfl 1 (by decide) _).mono ?_); rintro e w9 ⟨rfl, hw9⟩; have hw9x := hw9.symm; clear hw9; subst hw9x)
        go_at_call 24
        refine (HIH.out g (by omega) (.lev 3) (skip s k + 1) o y HY.out w1 _ HR4.out (by omega) (by decide)).mono ?_
        rintro e w5 ⟨rfl, hr5⟩
        obtain ⟨i5, o5, h5, h5p, h5i, h5o⟩ := hr5
        have HR5 := Lib.hid h5
        have HP5 := Lib.hid h5p
        have hl5 := h5.le
        have hkb5 := (blk_kept HKB.out h5.frm hkc HVB.out).cell 1
        clear h5 h5p p0 p1 p3 l1 l2 l3
        go_wp2_with fail
        go_at_call 43
        refine (put_any 11 w0 w1 _ s i5 o5 _ (by omega) HR5.out).mono ?_
        rintro e w6 ⟨rfl, hr6⟩
        have HN : Hid (LvRel w0 w1 s 2 F i out r w6 ∧ s.length - atOf w0.heap.size w6 < s.length - atOf w0.heap.size wr) := Lib.hid (by
          refine ⟨?_, by rw [hr6.atOf, HRD.out.atOf]; omega⟩
          rcases HOR2.out with ⟨h1, h2⟩ | ⟨i2, o2, h1, h2⟩
          · have := Option.some.inj (HY.out.symm.trans h1)
            subst this
            exact lv_no hr6 (by omega) (by simp; omega) h2
          · have := Option.some.inj (HY.out.symm.trans h1)
            subst this
            have h3 := HP5.out _ rfl
            cases h3
            exact lv_go hr6 (by omega) (by simp; omega) (by omega) h2)
        clear hr6
        go_wp2
        case roundEnd => exact HN.out
      have hopn : opK 2 s[skip s k]? = none := by
        cases hq : s[skip s k]? with
        | none => rfl
        | some c =>
          have g42 : c ≠ 42 := fun hc => h42 (by rw [hq, hc])
          have g47 : c ≠ 47 := fun hc => h47 (by rw [hq, hc])
          show (if c = 42 then some 10 else if c = 47 then some 11 else none : Option Int) = none
          rw [if_neg g42, if_neg g47]
      have hrr := prs_loop_no HPL.out hopn
      have hix : Lib.indexByte [42, 47] (UInt8.ofNat (nextB s k)) = -1 := index_no _ _ (fun b hb => by
        rcases List.mem_cons.1 hb with hb1 | hb
        · rw [hb1]; exact nextB_ne h42 (by decide)
        rcases List.mem_cons.1 hb with hb1 | hb
        · rw [hb1]; exact nextB_ne h47 (by decide)
        cases hb)
      have HIX := Lib.hid hix
      have hge := skip_ge s k
      have HE : Hid (∀ w', Rd w0 w1 s w' (skip s k) o false → RdR w0 w1 s w' i out r) := Lib.hid fun w' hw' => rd_some hrr hw' (by omega) (by omega)
      clear hix hopn hrr h42 h47
      obtain ⟨z, hz⟩ : ∃ z, nextB s k = z := ⟨_, rfl⟩
      rw [hz] at HIX
      have HZ := Lib.hid hz
      clear hz
      by_cases hz0 : z = 0
      all_goals
        first
        | (have hz1 : ((z : Int) == 0) = true := beq_iff_eq.2 (by omega); have hz2 := hz1)
        | (have hz1 : ((z : Int) == 0) = false := beq_eq_false_iff_ne.2 (by omega); have hz2 := hz1)
        clear hz0
        go_wp2_with fail
        go_at_call 25
        refine (spaces_any w0 w1 _ s hs k o false HRD.out).mono ?_
        rintro e w3 ⟨he, hr3⟩
        rw [HZ.out] at he
        subst he
        have HR3 := Lib.hid hr3
        clear hr3
        go_wp2_with (go_at_call 42; (with_reducible refine (sign_at ⟨#[42, 47]⟩ [42, 47] rfl _ z rfl (-1) HIX.out _).mono ?_); rintro e w9 ⟨rfl, hw9⟩; have hw9x := hw9.symm; clear hw9; subst hw9x)
        first
          | refine bodyPost_end (results_none rfl _ _ _) rfl ⟨rfl, (HE.out _ HR3.out).onto HR1.out.frm⟩
          | refine bodyPost_ret (results_none rfl _ _ _) rfl ⟨rfl, (HE.out _ HR3.out).onto HR1.out.frm⟩
end Go.Proofs.YtjgjgjkffoagoaaDoor
