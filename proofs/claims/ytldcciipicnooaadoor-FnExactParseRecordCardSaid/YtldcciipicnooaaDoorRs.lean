/-
  What is proved here: what spec.l09Int and spec.SplitFields return. No condition.
-/
import Derived.Test.YtldcciipicnooaaDoorRp
import Derived.Laws.AppendOwn
import Derived.OwnWalk
import Derived.Laws.DeepStrings4
namespace Go.Proofs.YtldcciipicnooaaDoor
open Go.RowKit
open Go.Lib (itoa decDigits nDigits nDigits_le20 itoa_length_le)
set_option maxRecDepth 100000
set_option maxHeartbeats 2000000
set_option linter.unusedVariables false
set_option linter.unusedSimpArgs false

/-- What a call of l09Int ends with. -/
def NinEnd (t : List UInt8) (w : World) (e : Ending) (w' : World) : Prop :=
  ∃ r ok, e = .returned (.tuple #[.int .i64 r, .bool ok]) ∧ NinR t r ok ∧ Below w.heap.size w w'

theorem spec_l09Int (t : List UInt8) (hl : t.length ≤ 9223372036854775807) (w : World) :
    Calls Tryd.prog 51 #[tx t] w (NinEnd t w) := by
  by_cases h2 : 1 < t.length
  · have c0 : decide (1 < (t.length : Int)) = true := decide_eq_true (by omega)
    have hsz : 0 < (⟨t.toArray⟩ : ByteArray).size := by simp [ByteArray.size]; omega
    have h0 : 0 < t.length := by omega
    obtain ⟨x, hx⟩ : ∃ x : Nat, ((⟨t.toArray⟩ : ByteArray)[0]'hsz).toNat = x := ⟨_, rfl⟩
    have HX : Hid ((t[0]'h0).toNat = x) := Lib.hid (by rw [← hx]; rfl)
    by_cases hc : x = 45
    · have c1 : ((x : Int) == 45) = true := beq_iff_eq.2 (by omega)
      have HC := Lib.hid hc
      clear hc
      go_enter Tryd.func51, Tryd.ntmps51
      go_wp2_with (first | (go_at_call 73; rw [tail_of]; (with_reducible refine (spec_ParseUint (t.drop 1) (by simp; omega) _).mono ?_); rintro e w1 ⟨r, ok, rfl, hr, hb1⟩; have hr0 := hr.range; have HR := Lib.hid hr; clear hr))
      refine bodyPost_ret (v := .tuple #[.int .i64 (-r), .bool ok]) (by simp [results, Tryd.results51, go_sem]) rfl ⟨(-r), ok, rfl, nin_minus t h2 r ok HR.out (HX.out.trans HC.out), hb1⟩
    · have c1 : ((x : Int) == 45) = false := beq_eq_false_iff_ne.2 (by omega)
      have HC := Lib.hid hc
      clear hc
      go_enter Tryd.func51, Tryd.ntmps51
      go_wp2_with (first | (go_at_call 73; (with_reducible refine (spec_ParseUint t hl _).mono ?_); rintro e w1 ⟨r, ok, rfl, hr, hb1⟩; have hr0 := hr.range; have HR := Lib.hid hr; clear hr))
      refine bodyPost_ret (v := .tuple #[.int .i64 r, .bool ok]) (by simp [results, Tryd.results51, go_sem]) rfl ⟨r, ok, rfl, nin_plus t r ok HR.out (Or.inr ⟨h0, fun h => HC.out (HX.out.symm.trans h)⟩), hb1⟩
  · have c0 : decide (1 < (t.length : Int)) = false := decide_eq_false (by omega)
    go_enter Tryd.func51, Tryd.ntmps51
    go_wp2_with (first | (go_at_call 73; (with_reducible refine (spec_ParseUint t hl _).mono ?_); rintro e w1 ⟨r, ok, rfl, hr, hb1⟩; have hr0 := hr.range; have HR := Lib.hid hr; clear hr))
    refine bodyPost_ret (v := .tuple #[.int .i64 r, .bool ok]) (by simp [results, Tryd.results51, go_sem]) rfl ⟨r, ok, rfl, nin_plus t r ok HR.out (Or.inl (by omega)), hb1⟩

/-- The cells of a row of texts. -/
abbrev txs (fs : List (List UInt8)) : List Value := fs.map tx

/-- The state of the cutting at place k, the running word's begin being b. -/
def SfSt (l : List UInt8) (k b : Nat) (fs : List (List UInt8)) : Prop :=
  (k ≤ l.length ∧ b ≤ k ∧ spSt (l.take k) = (fs, (l.take k).drop b)) ∨ (k = l.length + 1 ∧ fs = spOut l)
/-- The loop's relation. -/
def SfRel (l : List UInt8) (w : World) (out begin i : Value) (wr : World) : Prop :=
  ∃ (k b : Nat) (fs : List (List UInt8)), i = .int .i64 k ∧ begin = .int .i64 b ∧ k ≤ l.length + 1 ∧ fs.length ≤ k ∧ (∀ f ∈ fs, f.length ≤ l.length) ∧
    wr.ownsRow w.heap.size 9 1 out fs.length (txs fs) ∧ Below w.heap.size w wr ∧ SfSt l k b fs

theorem st_skip {l : List UInt8} {k b : Nat} {fs : List (List UInt8)} (hk : k < l.length) (hb : b ≤ k) (e : spSt (l.take k) = (fs, (l.take k).drop b)) (hc : l[k] ≠ 32) : SfSt l (k + 1) b fs := by
  refine Or.inl ⟨by omega, by omega, ?_⟩
  rw [List.take_succ_eq_append_getElem hk, spSt_snoc, e, spStep, if_neg hc, List.drop_append_of_le_length (by simp; omega)]
theorem st_blank_none {l : List UInt8} {k : Nat} {fs : List (List UInt8)} (hk : k < l.length) (e : spSt (l.take k) = (fs, (l.take k).drop k)) (hc : l[k] = 32) : SfSt l (k + 1) (k + 1) fs := by
  have e0 : (l.take k).drop k = [] := List.drop_eq_nil_of_le (by simp; omega)
  rw [e0] at e
  have e1 : spStep (fs, []) l[k] = (fs, []) := by simp [spStep, hc]
  have e2 : (l.take (k + 1)).drop (k + 1) = [] := List.drop_eq_nil_of_le (by simp; omega)
  refine Or.inl ⟨by omega, by omega, ?_⟩
  rw [e2, List.take_succ_eq_append_getElem hk, spSt_snoc, e, e1]
theorem piece_ne {l : List UInt8} {k b : Nat} (hk : k ≤ l.length) (hb : b < k) : (l.take k).drop b ≠ [] := by
  intro h
  have := congrArg List.length h
  simp at this
  omega
theorem st_blank_push {l : List UInt8} {k b : Nat} {fs : List (List UInt8)} (hk : k < l.length) (hb : b < k) (e : spSt (l.take k) = (fs, (l.take k).drop b)) (hc : l[k] = 32) : SfSt l (k + 1) (k + 1) (fs ++ [(l.take k).drop b]) := by
  have hne := piece_ne (l := l) (k := k) (by omega) hb
  have e1 : ∀ P : List UInt8, P ≠ [] → spStep (fs, P) l[k] = (fs ++ [P], []) := fun P hP => by simp [spStep, hc, hP]
  have e2 : (l.take (k + 1)).drop (k + 1) = [] := List.drop_eq_nil_of_le (by simp; omega)
  refine Or.inl ⟨by omega, by omega, ?_⟩
  rw [e2, List.take_succ_eq_append_getElem hk, spSt_snoc, e, e1 _ hne]
theorem st_end_none {l : List UInt8} {fs : List (List UInt8)} (e : spSt (l.take l.length) = (fs, (l.take l.length).drop l.length)) : SfSt l (l.length + 1) (l.length + 1) fs := by
  rw [List.take_length, List.drop_length] at e
  refine Or.inr ⟨rfl, ?_⟩
  unfold spOut
  rw [e]
  simp
theorem st_end_push {l : List UInt8} {b : Nat} {fs : List (List UInt8)} (hb : b < l.length) (e : spSt (l.take l.length) = (fs, (l.take l.length).drop b)) : SfSt l (l.length + 1) (l.length + 1) (fs ++ [(l.take l.length).drop b]) := by
  have hne := piece_ne (l := l) (Nat.le_refl _) hb
  rw [List.take_length] at e hne ⊢
  refine Or.inr ⟨rfl, ?_⟩
  unfold spOut
  rw [e]
  simp only [if_neg hne]
theorem piece_of (l : List UInt8) (b k : Nat) : Value.string ((⟨l.toArray⟩ : ByteArray).extract b k) = tx ((l.take k).drop b) := by
  rw [Lib.extract_eq, List.drop_take]
theorem own_next {l : List UInt8} {w : World} {wr w1 : World} {v v' : Value} {k b : Nat} {fs : List (List UInt8)} {o : Obj} (hf : fs.length ≤ k) (hfl : ∀ f ∈ fs, f.length ≤ l.length)
    (hown : wr.ownsRow w.heap.size 9 1 v fs.length (txs fs)) (hb : Below w.heap.size w wr)
    (hown' : w1.ownsRow w.heap.size 9 1 v' (fs.length + 1) (txs fs ++ [.string ((⟨l.toArray⟩ : ByteArray).extract b k)])) (hgrow : (wr.alloc o).grownBy w1 v.ownBlock) :
    (fs ++ [(l.take k).drop b]).length ≤ k + 1 ∧ (∀ f ∈ fs ++ [(l.take k).drop b], f.length ≤ l.length) ∧ w1.ownsRow w.heap.size 9 1 v' (fs ++ [(l.take k).drop b]).length (txs (fs ++ [(l.take k).drop b])) ∧ Below w.heap.size w w1 := by
  refine ⟨by simp; omega, ?_, ?_, (hb.alloc hb.size o).grown hgrow (by have := hb.size; simp; omega) (fun j hj => (hown.lt j hj).1)⟩
  · intro f hf
    rcases List.mem_append.1 hf with h | h
    · exact hfl f h
    · simp at h; subst h; simp; omega
  · rw [piece_of] at hown'
    simpa [txs] using hown'

theorem A_info9 : (Tryd.prog.info? 9).map (fun i => (i.zero, i.size, i.bytes)) = some (some (.string ByteArray.empty), 1, 16) := by kernel_rfl

/-- What a call of SplitFields ends with. -/
def SfEnd (l : List UInt8) (w : World) (e : Ending) (w' : World) : Prop :=
  ∃ (v : Value) (fs : List (List UInt8)) (ok : Bool), e = .returned (.tuple #[v, .bool ok]) ∧ w'.ownsRow w.heap.size 9 1 v fs.length (txs fs) ∧ (∀ f ∈ fs, f.length ≤ l.length) ∧ fs.length ≤ 601 ∧
    (∀ a b c d, recOk a b c d → recTx a b c d = l → fs = [itoa a, itoa b, itoa c, itoa d] ∧ ok = true) ∧ (ok = true → fs = spOut l) ∧ Below w.heap.size w w'

theorem own_lit (w wr : World) (hb : w.heap.size ≤ wr.heap.size) : (wr.alloc (.cells #[] 9)).ownsRow w.heap.size 9 1 (.slice (some ⟨wr.heap.size, 0, none⟩) 0 0) 0 [] :=
  World.ownsRow_lit (base := w.heap.size) wr #[] 0 hb (Nat.zero_le _) rfl

theorem sf_no {l : List UInt8} {w wr : World} (hb : Below w.heap.size w wr) (h : ∀ a b c d, recOk a b c d → recTx a b c d ≠ l) :
    SfEnd l w (.returned (.tuple #[.slice (some ⟨wr.heap.size, 0, none⟩) 0 0, .bool false])) (wr.alloc (.cells #[] 9)) :=
  ⟨_, [], false, rfl, own_lit w wr hb.size, (fun f hf => by cases hf), Nat.zero_le _, fun a b c d h1 h2 => absurd h2 (h a b c d h1), (fun e => by cases e), hb.alloc hb.size _⟩

theorem spec_SplitFields (l : List UInt8) (hl : l.length ≤ 9223372036854775807) (w : World) :
    Calls Tryd.prog 50 #[tx l] w (SfEnd l w) := by
  by_cases h600 : 600 < l.length
  · have c0 : decide (600 < (l.length : Int)) = true := decide_eq_true (by omega)
    have HE := Lib.hid (sf_no (l := l) (Below.refl w.heap.size w) (fun a b c d h e => by have := rec_len h; rw [e] at this; omega))
    go_enter Tryd.func50, Tryd.ntmps50
    go_wp2
    refine bodyPost_ret (v := .tuple #[.slice (some ⟨w.heap.size, 0, none⟩) 0 0, .bool false]) (by simp [results, Tryd.results50, go_sem]) rfl HE.out
  have c0 : decide (600 < (l.length : Int)) = false := decide_eq_false (by omega)
  obtain ⟨i0, hi, hz0, hz1, hz2⟩ := info_parts A_info9
  go_enter Tryd.func50, Tryd.ntmps50
  go_wp2
  go_loopw [4, 5, 6] (fun out begin i wr => SfRel l w out begin i wr) (fun _ _ i _ => l.length + 1 - (RowKit.intOf i).toNat)
  case atStart => exact ⟨0, 0, [], rfl, rfl, Nat.zero_le _, Nat.zero_le _, (fun f hf => by cases hf), own_lit w w (Nat.le_refl _), (Below.refl _ _).alloc (Nat.le_refl _) _, Or.inl ⟨Nat.zero_le _, Nat.le_refl _, rfl⟩⟩
  case round =>
    obtain ⟨k, b, fs, rfl, rfl, hk, hfk, hfl, hown, hb, hst⟩ := hrel
    have HOWN := Lib.hid hown
    have HB := Lib.hid hb
    have HFL := Lib.hid hfl
    clear hown hb hfl
    rcases hst with ⟨hkl, hbk, hst⟩ | ⟨rfl, hst⟩
    · have HST := Lib.hid hst
      clear hst
      have ck : decide ((k : Int) ≤ (l.length : Int)) = true := decide_eq_true (by omega)
      by_cases hlt : k < l.length
      · have cl : decide ((k : Int) < (l.length : Int)) = true := decide_eq_true (by omega)
        have hsz : k < (⟨l.toArray⟩ : ByteArray).size := by simpa [ByteArray.size] using hlt
        obtain ⟨x, hx⟩ : ∃ x : Nat, ((⟨l.toArray⟩ : ByteArray)[k]'hsz).toNat = x := ⟨_, rfl⟩
        have HX : Hid (l[k].toNat = x) := Lib.hid (by rw [← hx]; rfl)
        by_cases hlo : x < 32
        · have d1 : decide ((x : Int) < 32) = true := decide_eq_true (by omega)
          have HE := Lib.hid (sf_no (l := l) HB.out (fun a b c d h e => by
            have := rec_clean h l[k] (by rw [e]; exact List.getElem_mem hlt)
            have := HX.out
            omega))
          go_wp2
          refine bodyPost_ret (v := .tuple #[.slice (some ⟨wr.heap.size, 0, none⟩) 0 0, .bool false]) (by simp [results, Tryd.results50, go_sem]) rfl HE.out
        have d1 : decide ((x : Int) < 32) = false := decide_eq_false (by omega)
        by_cases hhi : 126 < x
        · have d2 : decide (126 < (x : Int)) = true := decide_eq_true (by omega)
          have HE := Lib.hid (sf_no (l := l) HB.out (fun a b c d h e => by
            have := rec_clean h l[k] (by rw [e]; exact List.getElem_mem hlt)
            have := HX.out
            omega))
          go_wp2
          refine bodyPost_ret (v := .tuple #[.slice (some ⟨wr.heap.size, 0, none⟩) 0 0, .bool false]) (by simp [results, Tryd.results50, go_sem]) rfl HE.out
        have d2 : decide (126 < (x : Int)) = false := decide_eq_false (by omega)
        by_cases h32 : x = 32
        · have d3 : ((x : Int) != 32) = false := bne_eq_false_iff_eq.2 (by omega)
          have HC : Hid (l[k] = 32) := Lib.hid (UInt8.toNat_inj.1 (by rw [HX.out, h32]; rfl))
          have H32 := Lib.hid h32
          clear h32
          by_cases hbk2 : b < k
          · have d4 : decide ((b : Int) < (k : Int)) = true := decide_eq_true (by omega)
            have z1 : (k < b) = False := eq_false (by omega)
            have z2 : (l.length < k) = False := eq_false (by omega)
            go_wp2_with (first | (at_builtin; refine wpList_append_own _ rfl _ _ 43 rfl w.heap.size 9 i0 (.string ByteArray.empty) 1 16 Tryd.underlying43 hi hz0 hz1 hz2 rfl (by decide) _ _ _ rfl (HOWN.out.alloc _) ⟨wr.heap.size, 0, none⟩ 1 1 [.string ((⟨l.toArray⟩ : ByteArray).extract b k)] rfl rfl ?c1 ?c2 ?c3 ?c4 ?c5 ?_))
            case c1 =>
              intro j u hj
              match j, hj with
              | 0, hj => simp at hj; subst hj; simp [Addr.add]
            case c2 => intro u hu; simp at hu; subst hu; rfl
            case c3 => unfold maxLen; omega
            case c4 => omega
            case c5 => have := HB.out.size; simp; omega
            · intro v' w1 hown' hgrow _
              have R := Lib.hid (own_next (l := l) (k := k) (b := b) hfk HFL.out HOWN.out HB.out hown' hgrow)
              clear hown' hgrow
              go_wp2
              case roundEnd =>
                exact ⟨⟨k + 1, k + 1, fs ++ [(l.take k).drop b], by simp, by simp, by omega, R.out.1, R.out.2.1, R.out.2.2.1, R.out.2.2.2, st_blank_push hlt hbk2 HST.out HC.out⟩, by first | (simp [RowKit.intOf]; done) | (simp [RowKit.intOf]; omega)⟩
          · obtain rfl : b = k := by omega
            have d4 : decide ((b : Int) < (b : Int)) = false := decide_eq_false (by omega)
            go_wp2
            case roundEnd => exact ⟨⟨b + 1, b + 1, fs, by simp, by simp, by omega, by omega, HFL.out, HOWN.out, HB.out, st_blank_none hlt HST.out HC.out⟩, by first | (simp [RowKit.intOf]; done) | (simp [RowKit.intOf]; omega)⟩
        · have d3 : ((x : Int) != 32) = true := bne_iff_ne.2 (by omega)
          go_wp2
          case roundEnd => exact ⟨⟨k + 1, b, fs, by simp, rfl, by omega, by omega, HFL.out, HOWN.out, HB.out, st_skip hlt hbk HST.out (fun h => h32 (by rw [← HX.out, h]; rfl))⟩, by first | (simp [RowKit.intOf]; done) | (simp [RowKit.intOf]; omega)⟩
      · obtain rfl : k = l.length := by omega
        have cl : decide ((l.length : Int) < (l.length : Int)) = false := decide_eq_false (by omega)
        by_cases hbk2 : b < l.length
        · have d4 : decide ((b : Int) < (l.length : Int)) = true := decide_eq_true (by omega)
          have z1 : (l.length < b) = False := eq_false (by omega)
          go_wp2_with (first | (at_builtin; refine wpList_append_own _ rfl _ _ 43 rfl w.heap.size 9 i0 (.string ByteArray.empty) 1 16 Tryd.underlying43 hi hz0 hz1 hz2 rfl (by decide) _ _ _ rfl (HOWN.out.alloc _) ⟨wr.heap.size, 0, none⟩ 1 1 [.string ((⟨l.toArray⟩ : ByteArray).extract b l.length)] rfl rfl ?c1 ?c2 ?c3 ?c4 ?c5 ?_))
          case c1 =>
            intro j u hj
            match j, hj with
            | 0, hj => simp at hj; subst hj; simp [Addr.add]
          case c2 => intro u hu; simp at hu; subst hu; rfl
          case c3 => unfold maxLen; omega
          case c4 => omega
          case c5 => have := HB.out.size; simp; omega
          · intro v' w1 hown' hgrow _
            have R := Lib.hid (own_next (l := l) (k := l.length) (b := b) hfk HFL.out HOWN.out HB.out hown' hgrow)
            clear hown' hgrow
            go_wp2
            case roundEnd =>
              exact ⟨⟨l.length + 1, l.length + 1, fs ++ [(l.take l.length).drop b], by simp, by simp, by omega, R.out.1, R.out.2.1, R.out.2.2.1, R.out.2.2.2, st_end_push hbk2 HST.out⟩, by first | (simp [RowKit.intOf]; done) | (simp [RowKit.intOf]; omega)⟩
        · obtain rfl : b = l.length := by omega
          have d4 : decide ((l.length : Int) < (l.length : Int)) = false := decide_eq_false (by omega)
          go_wp2
          case roundEnd => exact ⟨⟨l.length + 1, l.length + 1, fs, by simp, by simp, by omega, by omega, HFL.out, HOWN.out, HB.out, st_end_none HST.out⟩, by simp [RowKit.intOf]⟩
    · have ck : decide (((l.length + 1 : Nat) : Int) ≤ (l.length : Int)) = false := decide_eq_false (by omega)
      have ck2 : decide ((l.length : Int) + 1 ≤ (l.length : Int)) = false := decide_eq_false (by omega)
      have HS := Lib.hid hst
      clear hst
      have hform : ∃ a c, u4 = .slice a fs.length c := by
        rcases HOWN.out.2 with ⟨h1, h2⟩ | ⟨g, cap, cur, h1, _⟩
        · exact ⟨none, 0, by rw [h1, h2]⟩
        · exact ⟨_, cap, h1⟩
      obtain ⟨ga, gc, rfl⟩ := hform
      by_cases h24 : 24 < fs.length
      · have d5 : decide (24 < (fs.length : Int)) = true := decide_eq_true (by omega)
        have HE := Lib.hid (sf_no (l := l) HB.out (fun a b c d h e => by
          have := rec_fields h
          rw [e, ← HS.out] at this
          rw [this] at h24
          simp at h24))
        go_wp2
        refine bodyPost_ret (v := .tuple #[.slice (some ⟨wr.heap.size, 0, none⟩) 0 0, .bool false]) (by simp [results, Tryd.results50, go_sem]) rfl HE.out
      · have d5 : decide (24 < (fs.length : Int)) = false := decide_eq_false (by omega)
        go_wp2
        refine bodyPost_ret (v := .tuple #[.slice ga fs.length gc, .bool true]) (by simp [results, Tryd.results50, go_sem]) rfl ⟨_, fs, true, rfl, HOWN.out, HFL.out, by omega, fun a b c d h e => ⟨?_, rfl⟩, fun _ => HS.out, HB.out⟩
        have := rec_fields h
        rw [e, ← HS.out] at this
        exact this
end Go.Proofs.YtldcciipicnooaaDoor
