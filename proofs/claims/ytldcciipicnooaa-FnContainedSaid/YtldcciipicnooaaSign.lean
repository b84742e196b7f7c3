/- Quotients and numbers of units with a sign turned. No program in sight. -/
import Derived.Test.YtldcciipicnooaaDrawU
namespace Go.Proofs.Ytldcciipicnooaa
open Go.RowKit

theorem big_any (A : Option Addr) (len cap : Nat) (w : World) :
    Calls Try.prog 18 #[.slice A len cap] w fun en w' => en = .returned (.bool (decide ((1048576 : Int) < (len : Int)))) ∧ w' = w := by
  go_enter Try.func18, Try.ntmps18
  go_wp2
  go_ret
  exact ⟨rfl, rfl⟩
theorem read_sg {f : Ieee.Format} {a b m : Nat} {p : Int} (h : ru f a = ru f b) (hf : ru f a < f.infRung) (e : f.read a = .number (sg f a) m p) : f.read b = .number (sg f b) m p := by
  rw [read_eq] at e ⊢
  rw [← h]
  by_cases h1 : ru f a < f.binade
  · rw [if_pos h1] at e ⊢
    injection e with _ e1 e2
    rw [e1, e2]
  · rw [if_neg h1, if_pos hf] at e ⊢
    injection e with _ e1 e2
    rw [e1, e2]
theorem abs_rval {k k' : FloatKind} {x y : Nat} (hs : sg k.format x = sg k'.format y) (hv : val k x = val k' y) : rval k.format (ru k.format x) = rval k'.format (ru k'.format y) := by
  unfold val at hv
  rw [hs] at hv
  cases h : sg k'.format y
  · rw [h] at hv; exact hv
  · rw [h] at hv
    exact ratNegInj hv

theorem quot_sym {x v x' v' : Nat} (hx : ru FloatKind.f32.format x < FloatKind.f32.format.infRung) (hv : ru FloatKind.f32.format v < FloatKind.f32.format.infRung) (h0 : 0 < ru FloatKind.f32.format v)
    (hx' : ru FloatKind.f32.format x' = ru FloatKind.f32.format x) (hv' : ru FloatKind.f32.format v' = ru FloatKind.f32.format v) :
    ∃ q q', quotW x v = some q ∧ quotW x' v' = some q' ∧ ru FloatKind.f64.format q' = ru FloatKind.f64.format q ∧ sg FloatKind.f64.format q = (sg FloatKind.f32.format x ^^ sg FloatKind.f32.format v) ∧ sg FloatKind.f64.format q' = (sg FloatKind.f32.format x' ^^ sg FloatKind.f32.format v') := by
  obtain ⟨a, wa, ca, la, fa, sa, va⟩ := widen_some hx
  obtain ⟨b, wb, cb, lb, fb, sb, vb⟩ := widen_some hv
  obtain ⟨a', wa', ca', la', fa', sa', va'⟩ := widen_some (x := x') (by rw [hx']; exact hx)
  obtain ⟨b', wb', cb', lb', fb', sb', vb'⟩ := widen_some (x := v') (by rw [hv']; exact hv)
  have ra := abs_rval sa va
  have rb := abs_rval sb vb
  have ra' := abs_rval sa' va'
  have rb' := abs_rval sb' vb'
  rw [hx'] at ra'
  rw [hv'] at rb'
  have ea : ru FloatKind.f64.format a = ru FloatKind.f64.format a' := rval_inj FloatKind.f64.format (ra.trans ra'.symm)
  have eb : ru FloatKind.f64.format b = ru FloatKind.f64.format b' := rval_inj FloatKind.f64.format (rb.trans rb'.symm)
  obtain ⟨m, p, e1, v1⟩ := read_fin _ fa
  obtain ⟨n, j, e2, v2⟩ := read_fin _ fb
  have e1' := read_sg ea fa e1
  have e2' := read_sg eb fb e2
  have hn : n ≠ 0 := by
    intro hn
    subst hn
    rw [vOf_zero] at v2
    have h1 : val .f64 b = 0 := by unfold val; rw [← v2]; split <;> simp
    rw [vb] at h1
    have h2 := rval_pos FloatKind.f32.format h0
    unfold val at h1
    split at h1 <;> grind
  have hq : ∃ M P, ∀ s t, (Ieee.Datum.number s m p).quotient (FloatKind.f64.format.fractionBits + 2) (.number t n j) = some (.number (s ^^ t) M P) := by
    unfold Ieee.Datum.quotient
    simp only [hn, if_false]
    exact ⟨_, _, fun _ _ => rfl⟩
  obtain ⟨M, P, hd⟩ := hq
  have he : floatBits .quo .f64 a b = some (FloatKind.f64.format.write (.number (sg FloatKind.f64.format a ^^ sg FloatKind.f64.format b) M P)) := by
    show ((FloatKind.f64.format.read a).quotient (FloatKind.f64.format.fractionBits + 2) (FloatKind.f64.format.read b)).map _ = _
    rw [e1, e2, hd]; rfl
  have he' : floatBits .quo .f64 a' b' = some (FloatKind.f64.format.write (.number (sg FloatKind.f64.format a' ^^ sg FloatKind.f64.format b') M P)) := by
    show ((FloatKind.f64.format.read a').quotient (FloatKind.f64.format.fractionBits + 2) (FloatKind.f64.format.read b')).map _ = _
    rw [e1', e2', hd]; rfl
  refine ⟨FloatKind.f64.format.write (.number (sg FloatKind.f64.format a ^^ sg FloatKind.f64.format b) M P), FloatKind.f64.format.write (.number (sg FloatKind.f64.format a' ^^ sg FloatKind.f64.format b') M P), ?_, ?_, ?_, ?_, ?_⟩
  · unfold quotW; rw [wa, wb]; exact he
  · unfold quotW; rw [wa', wb']; exact he'
  · rw [ru_write, ru_write]
  · rw [sg_write, sa, sb]
  · rw [sg_write, sa', sb']

theorem amt_congr {q q' : Nat} (h : ru FloatKind.f64.format q' = ru FloatKind.f64.format q) : amt q' = amt q := by unfold amt; rw [h]
theorem small_congr {q q' : Nat} (h : ru FloatKind.f64.format q' = ru FloatKind.f64.format q) : small q' = small q := by unfold small; rw [amt_congr h, h]
theorem sgI_not (s : Bool) (n : Nat) : sgI (!s) n = -sgI s n := by unfold sgI; cases s <;> simp
/-- A number of units with one sign turned. -/
theorem quant_turn {x v x' v' : Nat} (hv : ru FloatKind.f32.format v < FloatKind.f32.format.infRung) (h0 : 0 < ru FloatKind.f32.format v)
    (hx' : ru FloatKind.f32.format x' = ru FloatKind.f32.format x) (hv' : ru FloatKind.f32.format v' = ru FloatKind.f32.format v)
    (hs : (sg FloatKind.f32.format x' ^^ sg FloatKind.f32.format v') = !(sg FloatKind.f32.format x ^^ sg FloatKind.f32.format v)) :
    quantF x' (v', true) = (-(quantF x (v, true)).1, (quantF x (v, true)).2) := by
  have hf : finB .f32 x' = finB .f32 x := by unfold finB; rw [hx']
  unfold quantF
  rw [hf]
  cases h : finB .f32 x
  · rfl
  · have hxf : ru FloatKind.f32.format x < FloatKind.f32.format.infRung := by simpa [finB] using h
    obtain ⟨q, q', e, e', h1, h2, h3⟩ := quot_sym hxf hv h0 hx' hv'
    simp only [e, e', Bool.and_self, if_true]
    rw [small_congr h1, amt_congr h1, h3, h2, hs, sgI_not]
    cases small q <;> rfl

theorem unit_eq (s : List UInt8) (m e : Int) : unitF s m e = if (makeF s m e).2 && !(FloatKind.f32.format.order (makeF s m e).1 0 == some .eq) then ((makeF s m e).1, true) else (0, false) := rfl
/-- A unit and the unit with the other sign. -/
theorem unit_sym (m e : Int) : (unitF [43] m e = (0, false) ∧ unitF [45] m e = (0, false)) ∨
    ∃ r, unitF [43] m e = (r, true) ∧ unitF [45] m e = (Op.negFloat .f32 r, true) ∧ ru FloatKind.f32.format r < FloatKind.f32.format.infRung ∧ 0 < ru FloatKind.f32.format r ∧ sg FloatKind.f32.format r = false := by
  obtain ⟨c, hc⟩ : ∃ c, ((decide (0 ≤ m) && decide (m ≤ 16777215)) && (decide (-149 ≤ e) && decide (e ≤ 127)) && mkOk m.toNat e) = c := ⟨_, rfl⟩
  have e1 : makeF [43] m e = if c then (rungOf FloatKind.f32.format m.toNat e, true) else (0, false) := by
    rw [← hc]; rfl
  have e2 : makeF [45] m e = if c then (Op.negFloat .f32 (rungOf FloatKind.f32.format m.toNat e), true) else (0, false) := by
    rw [← hc]; rfl
  cases c
  · left
    rw [unit_eq, unit_eq, e1, e2]
    exact ⟨rfl, rfl⟩
  · simp only [Bool.and_eq_true] at hc
    obtain ⟨w1, w2, w3⟩ := word32 (mkOk_rung hc.2)
    have hr := mkOk_rung hc.2
    generalize rungOf FloatKind.f32.format m.toNat e = r at *
    have hr' : ru FloatKind.f32.format r < FloatKind.f32.format.infRung := by rw [w2]; exact hr
    have o1 := ord_eq .f32 (Nat.le_of_lt hr') (y := 0) (by decide)
    have o2 := ord_eq .f32 (x := Op.negFloat .f32 r) (by rw [ru_neg']; exact Nat.le_of_lt hr') (y := 0) (by decide)
    have k3 : key .f32 0 = 0 := by decide
    have k1 : key .f32 r = ru FloatKind.f32.format r := key_pos .f32 w3
    have k2 : key .f32 (Op.negFloat .f32 r) = -(ru FloatKind.f32.format r : Int) := by
      unfold key; rw [sg_neg', ru_neg', w3]; rfl
    rw [k3, k1] at o1
    rw [k3, k2] at o2
    rw [unit_eq, unit_eq, e1, e2]
    simp only [if_true]
    rcases Nat.eq_zero_or_pos (ru FloatKind.f32.format r) with h0 | h0
    · left
      rw [o1, o2, h0]
      exact ⟨rfl, rfl⟩
    · right
      refine ⟨r, ?_, ?_, hr', h0, w3⟩
      · rw [o1, decide_eq_false (by omega)]; rfl
      · rw [o2, decide_eq_false (by omega)]; rfl
/-- What the law of the signs says, of what QuantumOf answers. -/
theorem quant_signs (x : Nat) (s t : List UInt8) (m e : Int) (h : (s = [43] ∧ t = [45]) ∨ (s = [45] ∧ t = [43])) :
    quantF (Op.negFloat .f32 x) (unitF s m e) = (-(quantF x (unitF s m e)).1, (quantF x (unitF s m e)).2) ∧ quantF x (unitF t m e) = (-(quantF x (unitF s m e)).1, (quantF x (unitF s m e)).2) := by
  rcases unit_sym m e with ⟨h1, h2⟩ | ⟨r, h1, h2, h3, h4, h5⟩
  · rcases h with ⟨rfl, rfl⟩ | ⟨rfl, rfl⟩
    · rw [h1, h2]; exact ⟨rfl, rfl⟩
    · rw [h1, h2]; exact ⟨rfl, rfl⟩
  · rcases h with ⟨rfl, rfl⟩ | ⟨rfl, rfl⟩
    · rw [h1, h2]
      refine ⟨quant_turn h3 h4 (ru_neg' .f32 x) rfl ?_, quant_turn h3 h4 rfl (ru_neg' .f32 r) ?_⟩
      · rw [sg_neg']; cases sg FloatKind.f32.format x <;> cases sg FloatKind.f32.format r <;> rfl
      · rw [sg_neg']; cases sg FloatKind.f32.format x <;> cases sg FloatKind.f32.format r <;> rfl
    · rw [h1, h2]
      have h3' : ru FloatKind.f32.format (Op.negFloat .f32 r) < FloatKind.f32.format.infRung := by rw [ru_neg']; exact h3
      have h4' : 0 < ru FloatKind.f32.format (Op.negFloat .f32 r) := by rw [ru_neg']; exact h4
      refine ⟨quant_turn h3' h4' (ru_neg' .f32 x) rfl ?_, quant_turn h3' h4' rfl (ru_neg' .f32 r).symm ?_⟩
      · rw [sg_neg']; cases sg FloatKind.f32.format x <;> cases sg FloatKind.f32.format (Op.negFloat .f32 r) <;> rfl
      · rw [sg_neg']; cases sg FloatKind.f32.format x <;> cases sg FloatKind.f32.format r <;> rfl

/-- A SLICE OF BYTES THAT CAME IN. -/
theorem row_of {w : World} {a : Option Addr} {len cap : Nat} {zs : List Int} (h : (a = none ∧ len = 0 ∧ cap = 0 ∧ zs = []) ∨
    ∃ x, a = some x ∧ len ≤ cap ∧ cap ≤ maxLen ∧ zs.length = cap ∧ (∀ i, i < zs.length → w.cell? (x.add i) = some (.int .u8 (zs.getD i 0))) ∧ ∀ n ∈ zs, (Lit.int .u8 n).wf = true) : len ≤ maxLen ∧ RowOk w.heap.size w a len := by
  rcases h with ⟨rfl, rfl, rfl, rfl⟩ | ⟨x, rfl, h1, h2, h3, h4, h5⟩
  · exact ⟨Nat.zero_le _, fun k hk => absurd hk (Nat.not_lt_zero k)⟩
  · refine ⟨by omega, fun k hk => ?_⟩
    have hc := h4 k (by omega)
    have hw : (Lit.int .u8 (zs.getD k 0)).wf = true := h5 _ (by rw [List.getD_eq_getElem?_getD, List.getElem?_eq_getElem (by omega)]; exact List.getElem_mem _)
    refine ⟨x, zs.getD k 0, rfl, World.block_lt_of_cell? w _ hc, hc, ?_⟩
    generalize zs.getD k 0 = n at hw
    simp [Lit.wf, IntKind.min, IntKind.max, IntKind.signed, IntKind.bits] at hw
    omega

end Go.Proofs.Ytldcciipicnooaa
