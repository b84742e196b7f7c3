/- The reader of expressions: a text that is wanted, a node put behind, figures. No condition. -/
import Derived.Test.YtjgjgjkffoagoaaDoorRdA
namespace Go.Proofs.YtjgjgjkffoagoaaDoor
open Go.RowKit
open Go.Lib (itoa decDigits nDigits nDigits_le20 itoa_length_le)
attribute [local go_sem] run_store_float run_store_complex
set_option maxRecDepth 100000
set_option maxHeartbeats 1000000
set_option linter.unusedVariables false
set_option linter.unusedSimpArgs false

theorem blk_grown {w w' : World} {b : Nat} {t : TypeId} {cs : Array Value} {row : Option Nat} (h : Blk w b t cs) (hg : w.grownBy w' row) (hne : some b ≠ row) : Blk w' b t cs := (hg.block b h.lt hne).trans h
/-- A node behind. -/
theorem rd_app {w0 wb w w' : World} {s : List UInt8} {i n g' cap : Nat} {out : List Nd} {f : Bool} {v : Value} {x : Nd} {xs : List Value} {o : Obj} (hb : Blk w w0.heap.size 55 #[tx s, .int .i64 (i : Int), v, .bool f]) (hown : w.ownsRow (w0.heap.size + 1) 43 3 v out.length (out.flatMap ndCells)) (hi : i ≤ s.length) (hbel : Below w0.heap.size w0 w) (hfr : Fr w0 wb w)
    (hn : n = out.length + 1) (hx : xs = out.flatMap ndCells ++ ndCells x) (hown' : w'.ownsRow (w0.heap.size + 1) 43 3 (.slice (some ⟨g', 0, none⟩) n cap) n xs) (hgrow : (w.alloc o).grownBy w' v.ownBlock) (hlies : v.ownBlock = some g' ∨ g' = (w.alloc o).heap.size) :
    Rd w0 wb s (w'.setCell ⟨w0.heap.size, 2, none⟩ (.slice (some ⟨g', 0, none⟩) n cap)) i (out ++ [x]) f := by
  subst hn hx
  have hsz : (w.alloc o).heap.size = w.heap.size + 1 := World.size_alloc w o
  have hlt := hb.lt
  have hrow : ∀ j, v.ownBlock = some j → w0.heap.size + 1 ≤ j := fun j hj => (hown.lt j hj).1
  have hb' := (blk_grown (hb.alloc o) hgrow (fun hj => by have := hrow _ hj.symm; omega)).set_ 2 (.slice (some ⟨g', 0, none⟩) (out.length + 1) cap)
  refine ⟨_, hb', ?_, hi, bl_set ((bl_alloc hbel o).grown hgrow (Nat.le_trans hbel.size (by rw [World.size_alloc]; omega)) (fun j hj => by have := hrow j hj; omega)) (Nat.le_refl _) _, hfr.trans ⟨fun k hk hc hv => ?_, fun v' hv' k hk hl => ?_, ?_⟩⟩
  · refine own_keep ?_ (fun k hk _ => Below.heap_setCell w' ⟨w0.heap.size, 2, none⟩ _ k (by simp; omega))
    rw [List.flatMap_append, List.length_append]
    simpa using hown'
  · have h1 := hv v (hb.cell 2)
    have h2 : w'.heap[k]? = (w.alloc o).heap[k]? := hgrow.block k (by omega) (fun he => h1 he.symm)
    exact (Below.heap_setCell w' ⟨w0.heap.size, 2, none⟩ _ k (by simpa using hc)).trans (h2.trans (Below.heap_alloc w o k hk))
  · have h1 : some (Value.slice (some ⟨g', 0, none⟩) (out.length + 1) cap) = some v' := (hb'.cell 2).symm.trans hv'
    have h2 := Option.some.inj h1
    subst h2
    have h3 : g' = k := Option.some.inj hk
    subst h3
    rcases hlies with h4 | h4
    · exact ⟨v, hb.cell 2, h4⟩
    · omega
  · have h1 := hgrow.size
    show w.heap.size ≤ (w'.setCell _ _).heap.size
    have h2 : (w'.setCell ⟨w0.heap.size, 2, none⟩ (.slice (some ⟨g', 0, none⟩) (out.length + 1) cap)).heap.size = w'.heap.size := by simp [World.setCell]
    omega
theorem put_any (k : Int) (w0 wb w : World) (s : List UInt8) (i : Nat) (out : List Nd) (f : Bool) (hlen : out.length ≤ 1000000) (h : Rd w0 wb s w i out f) :
    Calls Tryd.prog 43 #[.pointer (some ⟨w0.heap.size, 0, none⟩), .int .i64 k] w fun e w' => e = .returned (.tuple #[]) ∧ Rd w0 wb s w' i (out ++ [⟨k, 0, 0, 0⟩]) f := by
  have hlt := h.lt
  obtain ⟨v, hb, hown, hi, hbel, hfr⟩ := h
  have hsz := hbel.size
  have b2 := hb.cell 2
  have HB := Lib.hid hb
  have HO := Lib.hid hown
  have HBEL := Lib.hid hbel
  have HFR := Lib.hid hfr
  clear hb hown hbel hfr
  obtain ⟨i0, hii, hz0, hz1, hz2⟩ := info_parts A_infoN
  go_enter Tryd.func43, Tryd.ntmps43
  go_wp2_with (first | (at_builtin; refine wpList_append_lies _ rfl (.tmp 8) (.tmp 11) 24 rfl (w0.heap.size + 1) 43 i0 (.agg #[.int .i64 0, .int .i64 0, .complex .f64 0 0]) 3 32 Tryd.underlying24 hii hz0 hz1 hz2 rfl (by decide) _ _ _ rfl (HO.out.alloc _) ⟨w.heap.size, 0, none⟩ 1 1 (ndCells ⟨k, 0, 0, 0⟩) rfl rfl ?c1 ?c2 (by decide) ?c3 ?c4 ?c5 _ rfl ?_))
  case c1 => exact nd_news w ⟨k, 0, 0, 0⟩
  case c2 => exact nd_one' _
  case c3 => unfold maxLen; omega
  case c4 => omega
  case c5 => rw [World.size_alloc]; omega
  · intro g' cap' w5 hown' hgrow hlies _
    have HB5 := Lib.hid (blk_grown (HB.out.alloc _) hgrow (fun hj => by have := (HO.out.lt _ hj.symm).1; omega))
    have HN := Lib.hid (rd_app (x := ⟨k, 0, 0, 0⟩) HB.out HO.out hi HBEL.out HFR.out rfl rfl hown' hgrow (by simpa using hlies))
    have f2 := HB5.out.frozen 2
    have q2 := HB5.out.cell 2
    clear hown' hgrow hlies
    go_wp2
    refine bodyPost_end (results_none rfl _ _ _) rfl ⟨rfl, HN.out⟩
/-- What taking a text that is wanted ends with. -/
def WantEnd (w0 wb : World) (s : List UInt8) (i : Nat) (out : List Nd) (f : Bool) (t : List UInt8) (e : Ending) (w' : World) : Prop :=
  e = .returned (.tuple #[]) ∧ Rd w0 wb s w' (if stands s i t then skip s i + t.length else skip s i) out (f || !stands s i t)
theorem want_any (t : List UInt8) (ht : t.length ≤ 1000) (w0 wb w : World) (s : List UInt8) (hs : s.length ≤ 1000000) (i : Nat) (out : List Nd) (f : Bool) (h : Rd w0 wb s w i out f) :
    Calls Tryd.prog 63 #[.pointer (some ⟨w0.heap.size, 0, none⟩), tx t] w (WantEnd w0 wb s i out f t) := by
  have H := Lib.hid h
  clear h
  obtain ⟨b, hbb⟩ : ∃ b, stands s i t = b := ⟨_, rfl⟩
  have HBB := Lib.hid hbb
  clear hbb
  go_enter Tryd.func63, Tryd.ntmps63
  go_wp2_with fail
  go_at_call 62
  refine (take_any t ht w0 wb _ s hs i out f H.out).mono ?_
  rintro e w1 ⟨he, hr⟩
  rw [HBB.out] at he hr
  subst he
  have HR := Lib.hid hr
  obtain ⟨v, hb, _, _, _⟩ := hr
  have b3 := hb.cell 3
  have f3 := hb.frozen 3
  clear hb
  cases b
  · have HN : Hid (WantEnd w0 wb s i out f t (.returned (.tuple #[])) (w1.setCell ⟨w0.heap.size, 3, none⟩ (.bool true))) := Lib.hid ⟨rfl, by rw [HBB.out]; have := HR.out.setFail; simpa using this⟩
    go_wp2
    refine bodyPost_end (results_none rfl _ _ _) rfl HN.out
  · have HN : Hid (WantEnd w0 wb s i out f t (.returned (.tuple #[])) w1) := Lib.hid ⟨rfl, by rw [HBB.out]; simpa using HR.out⟩
    go_wp2
    refine bodyPost_end (results_none rfl _ _ _) rfl HN.out
/-- Is it a figure? -/
def isFig (c : UInt8) : Bool := decide (48 ≤ c.toNat) && decide (c.toNat ≤ 57)
theorem isDigit_any (x : Nat) (w : World) : Calls Tryd.prog 65 #[.int .u8 (x : Int)] w fun e w' => e = .returned (.bool (decide (48 ≤ x) && decide (x ≤ 57))) ∧ w' = w := by
  by_cases h : 48 ≤ x
  · have c1 : decide ((48 : Int) ≤ (x : Int)) = true := decide_eq_true (by omega)
    have e : (decide (48 ≤ x) && decide (x ≤ 57)) = decide ((x : Int) ≤ 57) := by rw [decide_eq_true h, Bool.true_and]; congr 1; apply propext; omega
    have HE := Lib.hid e
    clear e
    go_enter Tryd.func65, Tryd.ntmps65
    go_wp2
    go_ret
    exact ⟨by rw [HE.out]; rfl, rfl⟩
  · have c1 : decide ((48 : Int) ≤ (x : Int)) = false := decide_eq_false (by omega)
    have e : (decide (48 ≤ x) && decide (x ≤ 57)) = false := by rw [decide_eq_false h, Bool.false_and]
    have HE := Lib.hid e
    clear e
    go_enter Tryd.func65, Tryd.ntmps65
    go_wp2
    go_ret
    exact ⟨by rw [HE.out]; rfl, rfl⟩
theorem isDigit_is (x : Nat) (b : Bool) (w : World) (h : (decide (48 ≤ x) && decide (x ≤ 57)) = b) : Calls Tryd.prog 65 #[.int .u8 (x : Int)] w fun e w' => e = .returned (.bool b) ∧ w' = w := h ▸ isDigit_any x w
/-- How many figures a text begins with. -/
def figL : List UInt8 → Nat
  | [] => 0
  | c :: l => if isFig c then figL l + 1 else 0
/-- Where the figures end that begin at a place. -/
def figE (s : List UInt8) (i : Nat) : Nat := i + figL (s.drop i)
theorem figL_le : ∀ l : List UInt8, figL l ≤ l.length
  | [] => Nat.le_refl _
  | c :: l => by
    have := figL_le l
    show (if isFig c then figL l + 1 else 0) ≤ _
    split
    · simp; omega
    · omega
theorem figE_le {s : List UInt8} {i : Nat} (h : i ≤ s.length) : figE s i ≤ s.length := by
  unfold figE
  have h1 := figL_le (s.drop i)
  rw [List.length_drop] at h1
  omega
theorem figE_ge (s : List UInt8) (i : Nat) : i ≤ figE s i := Nat.le_add_right _ _
theorem figE_step {s : List UInt8} {i : Nat} (h : i < s.length) (hs : isFig s[i] = true) : figE s (i + 1) = figE s i := by
  unfold figE
  rw [List.drop_eq_getElem_cons h]
  show _ = i + (if isFig s[i] then figL (s.drop (i + 1)) + 1 else 0)
  rw [if_pos hs]; omega
theorem figE_stop {s : List UInt8} {i : Nat} (h : i < s.length) (hs : isFig s[i] = false) : figE s i = i := by
  unfold figE
  rw [List.drop_eq_getElem_cons h]
  show i + (if isFig s[i] then _ else 0) = i
  rw [hs]; rfl
theorem figE_end {s : List UInt8} {i : Nat} (h : s.length ≤ i) : figE s i = i := by
  unfold figE
  rw [List.drop_eq_nil_of_le h]; rfl
def DigEnd (w0 wb : World) (s : List UInt8) (i : Nat) (out : List Nd) (f : Bool) (e : Ending) (w' : World) : Prop := e = .returned (.bool (decide (i < figE s i))) ∧ Rd w0 wb s w' (figE s i) out f
theorem digits_any (w0 wb w : World) (s : List UInt8) (hs : s.length ≤ 1000000) (i : Nat) (out : List Nd) (f : Bool) (h : Rd w0 wb s w i out f) :
    Calls Tryd.prog 83 #[.pointer (some ⟨w0.heap.size, 0, none⟩)] w (DigEnd w0 wb s i out f) := by
  have H := Lib.hid h
  have hil := h.le
  obtain ⟨v0, hb, _, _, _⟩ := h
  have b1 := hb.cell 1
  clear hb
  go_enter Tryd.func83, Tryd.ntmps83
  go_wp2
  clear b1
  go_loopw [] (fun wr => ∃ k, Rd w0 wb s wr k out f ∧ figE s k = figE s i) (fun wr => s.length - atOf w0.heap.size wr)
  case atStart => exact ⟨i, H.out, rfl⟩
  case round =>
    obtain ⟨k, hr, hsk⟩ := hrel
    have HR := Lib.hid hr
    have HS := Lib.hid hsk
    obtain ⟨v, hb, hown, hkl, hbel⟩ := hr
    have b0 := hb.cell 0
    have b1 := hb.cell 1
    have f1 := hb.frozen 1
    clear hb hown hsk hbel
    by_cases hk : k < s.length
    · have c1 : decide ((k : Int) < (s.length : Int)) = true := decide_eq_true (by omega)
      have hsz : k < (⟨s.toArray⟩ : ByteArray).size := by simpa [ByteArray.size] using hk
      obtain ⟨x, hx⟩ : ∃ x : Nat, ((⟨s.toArray⟩ : ByteArray)[k]'hsz).toNat = x := ⟨_, rfl⟩
      have hxs : s[k].toNat = x := by rw [← hx]; rfl
      obtain ⟨q, hq⟩ : ∃ q, (decide (48 ≤ x) && decide (x ≤ 57)) = q := ⟨_, rfl⟩
      have HQ := Lib.hid hq
      have hfig : isFig s[k] = q := by unfold isFig; rw [hxs]; exact hq
      clear hq
      cases q
      · have hsk : figE s i = k := (HS.out.symm.trans (figE_stop hk hfig))
        have HE : Hid (∀ w', Rd w0 wb s w' k out f → DigEnd w0 wb s i out f (.returned (.bool (decide (i < k)))) w') := Lib.hid fun w' hw' => ⟨by rw [hsk], by rw [hsk]; exact hw'⟩
        clear hsk hfig
        go_wp2
        go_quiet ((go_at_call 65; exact Calls.quiet_of_same (isDigit_is x false _ HQ.out)))
        go_wp2
        go_ret
        exact HE.out _ (by repeat (first | exact HR.out | refine Rd.drewN ?_ _ | refine Rd.drew ?_))
      · have HN : Hid (∀ m, Rd w0 wb s ((wr.drewN m).setCell ⟨w0.heap.size, 1, none⟩ (.int .i64 ((k : Int) + 1))) (k + 1) out f ∧ figE s (k + 1) = figE s i) := Lib.hid fun m => ⟨by have := (HR.out.drewN m).setAt (j := k + 1) (by omega); simpa using this, (figE_step hk hfig).trans HS.out⟩
        clear hfig
        go_wp2
        go_quiet ((go_at_call 65; exact Calls.quiet_of_same (isDigit_is x true _ HQ.out)))
        go_wp2
        case roundEnd =>
          have h9 := HN.out nq
          refine ⟨⟨k + 1, h9.1, h9.2⟩, ?_⟩
          rw [h9.1.atOf, HR.out.atOf]
          omega
    · have c1 : decide ((k : Int) < (s.length : Int)) = false := decide_eq_false (by omega)
      have hsk : figE s i = k := HS.out.symm.trans (figE_end (by omega))
      have HE : Hid (∀ w', Rd w0 wb s w' k out f → DigEnd w0 wb s i out f (.returned (.bool (decide (i < k)))) w') := Lib.hid fun w' hw' => ⟨by rw [hsk], by rw [hsk]; exact hw'⟩
      clear hsk
      go_wp2
      go_quiet ((fail))
      go_wp2
      go_ret
      exact HE.out _ (by repeat (first | exact HR.out | refine Rd.drewN ?_ _ | refine Rd.drew ?_))
end Go.Proofs.YtjgjgjkffoagoaaDoor
