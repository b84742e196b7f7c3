/- What the program's and the specification's MirrorExpr give at a drawn expression: whether there is a mirrored row, and the row. Conditions: drawn nodes, an expression of at most 60 of them. -/
import Derived.Test.YtjacimccpadgeaaMirF
namespace Go.Proofs.Ytjacimccpadgeaa
open Go.RowKit
attribute [local go_sem] run_store_float run_store_complex
set_option maxRecDepth 100000
set_option maxHeartbeats 4000000
set_option linter.unusedVariables false
set_option linter.unusedSimpArgs false

/-- The mirrored row. -/
def mirs (l : List Nd) : List Nd := l.flatMap mir
/-- Is there a mirrored row? -/
def can (l : List Nd) : Bool := decide ((∀ x ∈ l, x.kind ≠ 7) ∧ (mirs l).length ≤ 60)
theorem can_bad {l : List Nd} {k : Nat} (hk : k < l.length) (h : l[k].kind = 7) : can l = false := decide_eq_false fun hc => hc.1 _ (List.getElem_mem hk) h
theorem flat_mir_le : ∀ (l : List Nd), (mirs l).length ≤ 2 * l.length
  | [] => Nat.le_refl _
  | x :: l => by
    unfold mirs
    rw [List.flatMap_cons, List.length_append, List.length_cons]
    have : (mir x).length ≤ 2 := by unfold mir; split <;> simp
    have h2 := flat_mir_le l
    unfold mirs at h2
    omega
theorem flat_step {l : List Nd} {k : Nat} (hk : k < l.length) : mirs (l.take (k + 1)) = mirs (l.take k) ++ mir l[k] := by
  unfold mirs
  rw [List.take_succ_eq_append_getElem hk, List.flatMap_append]
  simp
theorem imP_kind {x : Nd} (h : x.kind ≠ 1) : imP x = false := by unfold imP; rw [decide_eq_false h]; rfl
theorem imP_one {x : Nd} {b : Bool} (h : x.kind = 1) (hb : (FloatKind.f64.format.order x.im 0 != some .eq) = b) : imP x = b := by unfold imP; rw [decide_eq_true h, hb]; rfl
theorem mir_one {x : Nd} (h : imP x = false) : mir x = [x] := by unfold mir; rw [h]; rfl
theorem mir_two {x : Nd} (h : imP x = true) : mir x = [x, ndM] := by unfold mir; rw [h]; rfl

/-- The loop's relation. -/
def MiRel (l : List Nd) (w : World) (out i : Value) (wr : World) : Prop :=
  ∃ k : Nat, i = .int .i64 k ∧ k ≤ l.length ∧ wr.ownsRow w.heap.size 36 3 out (mirs (l.take k)).length ((mirs (l.take k)).flatMap ndCells) ∧ (∀ x ∈ l.take k, x.kind ≠ 7) ∧ Below w.heap.size w wr
def MiEnd (l : List Nd) (w : World) (e : Ending) (w' : World) : Prop :=
  ∃ v, e = .returned (.tuple #[v, .bool (can l)]) ∧ (can l = true → NView w' v (mirs l)) ∧ (can l = false → v = .slice none 0 0) ∧ Below w.heap.size w w'
def MiEnd2 (l : List Nd) (w : World) (e : Ending) (w' : World) : Prop :=
  ∃ v, e = .returned (.tuple #[v, .bool (can l)]) ∧ Below w.heap.size w w'
theorem seven_next {l : List Nd} {k : Nat} (hk : k < l.length) (h7 : ∀ x ∈ l.take k, x.kind ≠ 7) (h : l[k].kind ≠ 7) : ∀ x ∈ l.take (k + 1), x.kind ≠ 7 := by
  intro x hx
  rw [List.take_succ_eq_append_getElem hk] at hx
  rcases List.mem_append.1 hx with hx | hx
  · exact h7 x hx
  · simp at hx; subst hx; exact h
/-- The row with the node behind it. -/
theorem mi_next {l : List Nd} {w W W' : World} {out : Value} {k n g' cap : Nat} {xs : List Value} {o : Obj} (hk : k < l.length) (h7 : ∀ x ∈ l.take k, x.kind ≠ 7) (h : l[k].kind ≠ 7) (hi : imP l[k] = false)
    (hown : W.ownsRow w.heap.size 36 3 out (mirs (l.take k)).length ((mirs (l.take k)).flatMap ndCells)) (hb : Below w.heap.size w W)
    (hn : n = (mirs (l.take k)).length + 1) (hx : xs = (mirs (l.take k)).flatMap ndCells ++ ndCells l[k]) (hown' : W'.ownsRow w.heap.size 36 3 (.slice (some ⟨g', 0, none⟩) n cap) n xs) (hgrow : (W.alloc o).grownBy W' out.ownBlock) :
    MiRel l w (.slice (some ⟨g', 0, none⟩) n cap) (.int .i64 ((k : Int) + 1)) W' ∧ l.length - (RowKit.intOf (.int .i64 ((k : Int) + 1))).toNat < l.length - (RowKit.intOf (.int .i64 (k : Int))).toNat := by
  subst hn hx
  refine ⟨⟨k + 1, by simp, hk, ?_, seven_next hk h7 h, (hb.alloc hb.size o).grown hgrow (Nat.le_trans hb.size (by rw [World.size_alloc]; omega)) (fun j hj => by have := (hown.lt j hj).1; omega)⟩, by simp [RowKit.intOf]; omega⟩
  rw [flat_step hk, mir_one hi, List.flatMap_append, List.length_append]
  simpa using hown'
/-- The row with the node and a unary minus behind it. -/
theorem mi_next2 {l : List Nd} {w W W' : World} {out : Value} {k n g' cap : Nat} {xs : List Value} {o : Obj} (hk : k < l.length) (h7 : ∀ x ∈ l.take k, x.kind ≠ 7) (h : l[k].kind ≠ 7) (hi : imP l[k] = true)
    (hown : W.ownsRow w.heap.size 36 3 out ((mirs (l.take k)).length + 1) ((mirs (l.take k)).flatMap ndCells ++ ndCells l[k])) (hb : Below w.heap.size w W)
    (hn : n = (mirs (l.take k)).length + 1 + 1) (hx : xs = ((mirs (l.take k)).flatMap ndCells ++ ndCells l[k]) ++ ndCells ndM) (hown' : W'.ownsRow w.heap.size 36 3 (.slice (some ⟨g', 0, none⟩) n cap) n xs) (hgrow : (W.alloc o).grownBy W' out.ownBlock) :
    MiRel l w (.slice (some ⟨g', 0, none⟩) n cap) (.int .i64 ((k : Int) + 1)) W' ∧ l.length - (RowKit.intOf (.int .i64 ((k : Int) + 1))).toNat < l.length - (RowKit.intOf (.int .i64 (k : Int))).toNat := by
  subst hn hx
  refine ⟨⟨k + 1, by simp, hk, ?_, seven_next hk h7 h, (hb.alloc hb.size o).grown hgrow (Nat.le_trans hb.size (by rw [World.size_alloc]; omega)) (fun j hj => by have := (hown.lt j hj).1; omega)⟩, by simp [RowKit.intOf]; omega⟩
  rw [flat_step hk, mir_two hi, List.flatMap_append, List.length_append]
  simpa using hown'
theorem mi_bad {l : List Nd} {w W : World} {k : Nat} (hk : k < l.length) (h : l[k].kind = 7) (hb : Below w.heap.size w W) : MiEnd l w (.returned (.tuple #[.slice none 0 0, .bool false])) W :=
  ⟨_, by rw [can_bad hk h], fun hc => absurd hc (by rw [can_bad hk h]; decide), fun _ => rfl, hb⟩
theorem mi_bad2 {l : List Nd} {w W : World} {k : Nat} {v : Value} (hk : k < l.length) (h : l[k].kind = 7) (hb : Below w.heap.size w W) : MiEnd2 l w (.returned (.tuple #[v, .bool false])) W :=
  ⟨_, by rw [can_bad hk h], hb⟩
theorem can_long {l : List Nd} (h : 60 < (mirs l).length) : can l = false := decide_eq_false fun hc => by omega
theorem can_yes {l : List Nd} (h7 : ∀ x ∈ l, x.kind ≠ 7) (h : ¬ 60 < (mirs l).length) : can l = true := decide_eq_true ⟨h7, by omega⟩
theorem mi_long {l : List Nd} {w W : World} (h : 60 < (mirs l).length) (hb : Below w.heap.size w W) : MiEnd l w (.returned (.tuple #[.slice none 0 0, .bool false])) W :=
  ⟨_, by rw [can_long h], fun hc => absurd hc (by rw [can_long h]; decide), fun _ => rfl, hb⟩
theorem mi_long2 {l : List Nd} {w W : World} {v : Value} (h : 60 < (mirs l).length) (hb : Below w.heap.size w W) : MiEnd2 l w (.returned (.tuple #[v, .bool false])) W := ⟨_, by rw [can_long h], hb⟩
theorem mi_done {l : List Nd} {w W : World} {g c n : Nat} (h7 : ∀ x ∈ l, x.kind ≠ 7) (h : ¬ 60 < (mirs l).length) (hn : n = (mirs l).length) (hown : W.ownsRow w.heap.size 36 3 (.slice (some ⟨g, 0, none⟩) n c) n ((mirs l).flatMap ndCells)) (hb : Below w.heap.size w W) : MiEnd l w (.returned (.tuple #[.slice (some ⟨g, 0, none⟩) n c, .bool true])) W := by
  subst hn
  exact ⟨_, by rw [can_yes h7 h], fun _ => NRow.view ⟨c, rfl, own_at hown⟩, fun hc => absurd hc (by rw [can_yes h7 h]; decide), hb⟩
theorem mi_done2 {l : List Nd} {w W : World} {v : Value} (h7 : ∀ x ∈ l, x.kind ≠ 7) (h : ¬ 60 < (mirs l).length) (hb : Below w.heap.size w W) : MiEnd2 l w (.returned (.tuple #[v, .bool true])) W := ⟨_, by rw [can_yes h7 h], hb⟩
theorem blk_grown {w w' : World} {b : Nat} {t : TypeId} {cs : Array Value} {row : Option Nat} (h : Blk w b t cs) (hg : w.grownBy w' row) (hne : some b ≠ row) : Blk w' b t cs := (hg.block b h.lt hne).trans h

theorem mirrorI_any (l : List Nd) (v : Value) (w : World) (hv : NView w v l) (hl : 1 ≤ l.length ∧ l.length ≤ 60) (hg : ∀ x ∈ l, GoodN x) (hex : IsEx l) :
    Calls Try.prog 8 #[v] w (MiEnd l w) := by
  have hv2 := hv
  obtain ⟨g, cap, rfl, hgw, hcells⟩ := hv
  have HC := Lib.hid hcells
  clear hcells
  obtain ⟨i0, hi, hz0, hz1, hz2⟩ := info_parts A_infoN
  have hle := flat_mir_le l
  have hge : l.length ≤ (mirs l).length := flat_mir_len l
  go_enter Try.func8, Try.ntmps8
  go_wp2_with fail
  go_at_call 11
  refine (exprOkI_any l _ _ hv2 hl hg hex).mono ?_
  rintro e w1 ⟨rfl, hb1⟩
  have HB1 := Lib.hid hb1
  clear hb1 hv2
  go_wp2
  go_loopw [4, 12] (fun out i wr => MiRel l w out i wr) (fun _ i _ => l.length - (RowKit.intOf i).toNat)
  case atStart => exact ⟨0, rfl, Nat.zero_le _, World.ownsRow_nil _ _ _ _, by simp, HB1.out⟩
  case round =>
    obtain ⟨k, rfl, hk, hown, h7, hb⟩ := hrel
    have HOWN := Lib.hid hown
    have HB := Lib.hid hb
    have H7 := Lib.hid h7
    clear hown h7
    by_cases hkl : k < l.length
    · have ck : decide ((k : Int) < (l.length : Int)) = true := decide_eq_true (by omega)
      have hcw : NCells wr g l := HC.out.below HB.out hgw
      obtain ⟨x0, x1, x2⟩ := hcw k hkl
      clear hcw
      have hsz := HB.out.size
      have hlk := flat_mir_le (l.take k)
      have htk : (l.take k).length ≤ k := List.length_take_le _ _
      by_cases k7 : l[k].kind = 7
      · rw [k7] at x0
        have HE := Lib.hid (mi_bad hkl k7 (bl_alloc HB.out (.cells #[.int .i64 7, .int .i64 l[k].slot, .complex .f64 l[k].re l[k].im] 36)))
        clear k7
        go_wp2
        exact bodyPost_ret (v := .tuple #[.slice none 0 0, .bool false]) (by simp (maxDischargeDepth := 6) [results, Try.results8, go_sem]) rfl HE.out
      · have K7 := Lib.hid k7
        by_cases k1 : l[k].kind = 1
        · rw [k1] at x0
          have HK1 := Lib.hid k1
          clear k7 k1
          have BX := Blk.new wr 36 #[.int .i64 1, .int .i64 l[k].slot, .complex .f64 l[k].re l[k].im]
          have HBX := Lib.hid BX
          clear BX
          have HB4 := Lib.hid (bl_alloc HB.out (.cells #[.int .i64 1, .int .i64 l[k].slot, .complex .f64 l[k].re l[k].im] 36))
          have HO4 := Lib.hid (HOWN.out.alloc (.cells #[.int .i64 1, .int .i64 l[k].slot, .complex .f64 l[k].re l[k].im] 36))
          have hlt4 : ∀ j, u4.ownBlock = some j → j < wr.heap.size := fun j hj => (HOWN.out.lt j hj).2
          go_wp2_with (first | (at_builtin; refine wpList_append_lies _ rfl (.tmp 19) (.tmp 21) 24 rfl w.heap.size 36 i0 (.agg #[.int .i64 0, .int .i64 0, .complex .f64 0 0]) 3 32 Try.underlying24 hi hz0 hz1 hz2 rfl (by decide) _ _ _ rfl (HO4.out.alloc _) ⟨wr.heap.size + 1, 0, none⟩ 1 1 (ndCells l[k]) rfl rfl ?c1 ?c2 (by decide) ?c3 ?c4 ?c5 _ rfl ?_))
          case c1 =>
            have h1 := HK1.out
            intro j u hj
            match j, hj with
            | 0, hj => simp [h1] at hj; subst hj; simp [Addr.add]
            | 1, hj => simp at hj; subst hj; simp [Addr.add]
            | 2, hj => simp at hj; subst hj; simp [Addr.add]
          case c2 => exact nd_one' _
          case c3 => unfold maxLen; omega
          case c4 => omega
          case c5 => simp; omega
          · intro g' cap' w5 hown' hgrow _ _
            have HBX5 := Lib.hid (blk_grown (HBX.out.alloc _) hgrow (fun hj => by have := hlt4 _ hj.symm; omega))
            have y0 := HBX5.out.cell 0
            have y2 := HBX5.out.cell 2
            cases him : (FloatKind.f64.format.order l[k].im 0 != some .eq)
            · have HN := Lib.hid (mi_next hkl H7.out K7.out (imP_one HK1.out him) HO4.out HB4.out rfl rfl hown' hgrow)
              clear hown' hgrow
              go_wp2
              case roundEnd => exact HN.out
            · have HO5 := Lib.hid hown'
              have HB5 := Lib.hid ((bl_alloc HB4.out _).grown hgrow (by simp; omega) (fun j hj => by have := (HO4.out.lt j hj).1; omega))
              have hs5 := HB5.out.size
              clear hown' hgrow
              go_wp2_with (first | (at_builtin; refine wpList_append_lies _ rfl (.tmp 32) (.tmp 34) 24 rfl w.heap.size 36 i0 (.agg #[.int .i64 0, .int .i64 0, .complex .f64 0 0]) 3 32 Try.underlying24 hi hz0 hz1 hz2 rfl (by decide) _ _ _ rfl (HO5.out.alloc _) ⟨w5.heap.size, 0, none⟩ 1 1 (ndCells ndM) rfl rfl ?c1 ?c2 (by decide) ?c3 ?c4 ?c5 _ rfl ?_))
              case c1 => exact nd_news w5 ndM
              case c2 => exact nd_one' _
              case c3 => unfold maxLen; omega
              case c4 => omega
              case c5 => rw [World.size_alloc]; omega
              · intro g6 cap6 w6 hown6 hgrow6 _ _
                have HN := Lib.hid (mi_next2 hkl H7.out K7.out (imP_one HK1.out him) HO5.out HB5.out rfl (by simp) hown6 hgrow6)
                clear hown6 hgrow6
                go_wp2
                case roundEnd => exact HN.out
        · have HK1 := Lib.hid k1
          have c7 : (l[k].kind == 7) = false := beq_eq_false_iff_ne.2 k7
          have c1 : (l[k].kind == 1) = false := beq_eq_false_iff_ne.2 k1
          clear k7 k1
          have BX := Blk.new wr 36 #[.int .i64 l[k].kind, .int .i64 l[k].slot, .complex .f64 l[k].re l[k].im]
          have HBX := Lib.hid BX
          clear BX
          have HB4 := Lib.hid (bl_alloc HB.out (.cells #[.int .i64 l[k].kind, .int .i64 l[k].slot, .complex .f64 l[k].re l[k].im] 36))
          have HO4 := Lib.hid (HOWN.out.alloc (.cells #[.int .i64 l[k].kind, .int .i64 l[k].slot, .complex .f64 l[k].re l[k].im] 36))
          have hlt4 : ∀ j, u4.ownBlock = some j → j < wr.heap.size := fun j hj => (HOWN.out.lt j hj).2
          go_wp2_with (first | (at_builtin; refine wpList_append_lies _ rfl (.tmp 19) (.tmp 21) 24 rfl w.heap.size 36 i0 (.agg #[.int .i64 0, .int .i64 0, .complex .f64 0 0]) 3 32 Try.underlying24 hi hz0 hz1 hz2 rfl (by decide) _ _ _ rfl (HO4.out.alloc _) ⟨wr.heap.size + 1, 0, none⟩ 1 1 (ndCells l[k]) rfl rfl ?c1 ?c2 (by decide) ?c3 ?c4 ?c5 _ rfl ?_))
          case c1 =>
            intro j u hj
            match j, hj with
            | 0, hj => simp at hj; subst hj; simp [Addr.add]
            | 1, hj => simp at hj; subst hj; simp [Addr.add]
            | 2, hj => simp at hj; subst hj; simp [Addr.add]
          case c2 => exact nd_one' _
          case c3 => unfold maxLen; omega
          case c4 => omega
          case c5 => simp; omega
          · intro g' cap' w5 hown' hgrow _ _
            have HBX5 := Lib.hid (blk_grown (HBX.out.alloc _) hgrow (fun hj => by have := hlt4 _ hj.symm; omega))
            have y0 := HBX5.out.cell 0
            have y2 := HBX5.out.cell 2
            have HN := Lib.hid (mi_next hkl H7.out K7.out (imP_kind HK1.out) HO4.out HB4.out rfl rfl hown' hgrow)
            clear hown' hgrow
            go_wp2
            case roundEnd => exact HN.out
    · have ck : decide ((k : Int) < (l.length : Int)) = false := decide_eq_false (by omega)
      obtain rfl : k = l.length := by omega
      have hown := HOWN.out
      have h7 := H7.out
      rw [List.take_length] at hown h7
      have hpos : 0 < (mirs l).length := by omega
      obtain ⟨gs, cs, hvs⟩ := Joins.ownsRow_form hown hpos
      subst hvs
      by_cases hlong : 60 < (mirs l).length
      · have cl : decide ((60 : Int) < ((mirs l).length : Int)) = true := decide_eq_true (by omega)
        have HE := Lib.hid (mi_long hlong HB.out)
        clear hown
        go_wp2
        exact bodyPost_ret (v := .tuple #[.slice none 0 0, .bool false]) (by simp (maxDischargeDepth := 6) [results, Try.results8, go_sem]) rfl HE.out
      · have cl : decide ((60 : Int) < ((mirs l).length : Int)) = false := decide_eq_false (by omega)
        have HE := Lib.hid (mi_done h7 hlong rfl hown HB.out)
        clear hown
        go_wp2
        exact bodyPost_ret (v := .tuple #[.slice (some ⟨gs, 0, none⟩) (mirs l).length cs, .bool true]) (by simp (maxDischargeDepth := 6) [results, Try.results8, go_sem]) rfl HE.out

theorem own_emptyN (w : World) (base q : Nat) (hq : q = w.heap.size) (hb : base ≤ w.heap.size) : (w.alloc (.cells #[] 36)).ownsRow base 36 3 (.slice (some ⟨q, 0, none⟩) 0 0) 0 [] := by
  subst hq
  have := World.ownsRow_lit (base := w.heap.size) w (e := 36) (size := 3) #[] 0 (by omega) (Nat.zero_le _) rfl
  exact this.mono hb
theorem cells_grown {w w' : World} {g : Nat} {l : List Nd} {row : Option Nat} (h : NCells w g l) (hg : w.grownBy w' row) (hne : some g ≠ row) : NCells w' g l := fun k hk => by
  obtain ⟨a, b, c⟩ := h k hk
  exact ⟨hg.cell a hne, hg.cell b hne, hg.cell c hne⟩
theorem mirrorS_any (l : List Nd) (v : Value) (w : World) (hv : NView w v l) (hl : 1 ≤ l.length ∧ l.length ≤ 60) (hg : ∀ x ∈ l, GoodN x) (hex : IsEx l) :
    Calls Try.prog 9 #[v] w (MiEnd2 l w) := by
  have hv2 := hv
  obtain ⟨g, cap, rfl, hgw, hcells⟩ := hv
  have HC := Lib.hid hcells
  clear hcells
  obtain ⟨i0, hi, hz0, hz1, hz2⟩ := info_parts A_infoN
  have hle := flat_mir_le l
  have hge : l.length ≤ (mirs l).length := flat_mir_len l
  have HV0 := Lib.hid (hv2.below (bl_alloc (Below.refl _ w) (.cells #[] 36)))
  go_enter Try.func9, Try.ntmps9
  go_wp2_with fail
  go_at_call 20
  refine (exprOkS_any l _ _ HV0.out hl hg hex).mono ?_
  rintro e w1 ⟨rfl, hb1⟩
  have HB1 := Lib.hid (bl_call (bl_alloc (Below.refl _ w) _) hb1)
  have HO1 := Lib.hid (own_below (own_emptyN w w.heap.size _ rfl (Nat.le_refl _)) hb1)
  clear hb1 hv2
  go_wp2
  go_loopw [4, 5] (fun out i wr => MiRel l w out i wr) (fun _ i _ => l.length - (RowKit.intOf i).toNat)
  case atStart => exact ⟨0, rfl, Nat.zero_le _, HO1.out, by simp, HB1.out⟩
  case round =>
    obtain ⟨k, rfl, hk, hown, h7, hb⟩ := hrel
    have HOWN := Lib.hid hown
    have HB := Lib.hid hb
    have H7 := Lib.hid h7
    clear hown h7
    by_cases hkl : k < l.length
    · have ck : decide ((k : Int) < (l.length : Int)) = true := decide_eq_true (by omega)
      have hcw : NCells wr g l := HC.out.below HB.out hgw
      obtain ⟨x0, x1, x2⟩ := hcw k hkl
      have HCW := Lib.hid hcw
      clear hcw
      have hsz := HB.out.size
      have hlk := flat_mir_le (l.take k)
      have htk : (l.take k).length ≤ k := List.length_take_le _ _
      have hne4 : some g ≠ u4.ownBlock := fun hj => by have := (HOWN.out.lt g hj.symm).1; omega
      by_cases k7 : l[k].kind = 7
      · rw [k7] at x0
        have HE := Lib.hid (fun (v : Value) => mi_bad2 (v := v) hkl k7 (bl_alloc HB.out (.cells #[] 36)))
        clear k7
        go_wp2
        exact bodyPost_ret (v := .tuple #[.slice (some ⟨wr.heap.size, 0, none⟩) 0 0, .bool false]) (by simp (maxDischargeDepth := 6) [results, Try.results9, go_sem]) rfl (HE.out _)
      · have K7 := Lib.hid k7
        by_cases k1 : l[k].kind = 1
        · rw [k1] at x0
          have HK1 := Lib.hid k1
          clear k7 k1
          go_wp2_with (first | (at_builtin; refine wpList_append_lies _ rfl (.tmp 24) (.tmp 29) 24 rfl w.heap.size 36 i0 (.agg #[.int .i64 0, .int .i64 0, .complex .f64 0 0]) 3 32 Try.underlying24 hi hz0 hz1 hz2 rfl (by decide) _ _ _ rfl (HOWN.out.alloc _) ⟨wr.heap.size, 0, none⟩ 1 1 (ndCells l[k]) rfl rfl ?c1 ?c2 (by decide) ?c3 ?c4 ?c5 _ rfl ?_))
          case c1 =>
            have h1 := HK1.out
            intro j u hj
            match j, hj with
            | 0, hj => simp [h1] at hj; subst hj; simp [Addr.add]
            | 1, hj => simp at hj; subst hj; simp [Addr.add]
            | 2, hj => simp at hj; subst hj; simp [Addr.add]
          case c2 => exact nd_one' _
          case c3 => unfold maxLen; omega
          case c4 => omega
          case c5 => simp; omega
          · intro g' cap' w5 hown' hgrow _ _
            obtain ⟨y0, y1, y2⟩ := (cells_grown (HCW.out.below (bl_alloc (Below.refl _ wr) _) (by omega)) hgrow hne4) k hkl
            have h1 := HK1.out
            rw [h1] at y0
            clear h1
            cases him : (FloatKind.f64.format.order l[k].im 0 != some .eq)
            · have HN := Lib.hid (mi_next hkl H7.out K7.out (imP_one HK1.out him) HOWN.out HB.out rfl rfl hown' hgrow)
              clear hown' hgrow
              go_wp2
              case roundEnd => exact HN.out
            · have HO5 := Lib.hid hown'
              have HB5 := Lib.hid ((bl_alloc HB.out _).grown hgrow (by simp; omega) (fun j hj => by have := (HOWN.out.lt j hj).1; omega))
              have hs5 := HB5.out.size
              clear hown' hgrow
              go_wp2_with (first | (at_builtin; refine wpList_append_lies _ rfl (.tmp 46) (.tmp 48) 24 rfl w.heap.size 36 i0 (.agg #[.int .i64 0, .int .i64 0, .complex .f64 0 0]) 3 32 Try.underlying24 hi hz0 hz1 hz2 rfl (by decide) _ _ _ rfl (HO5.out.alloc _) ⟨w5.heap.size, 0, none⟩ 1 1 (ndCells ndM) rfl rfl ?c1 ?c2 (by decide) ?c3 ?c4 ?c5 _ rfl ?_))
              case c1 => exact nd_news w5 ndM
              case c2 => exact nd_one' _
              case c3 => unfold maxLen; omega
              case c4 => omega
              case c5 => rw [World.size_alloc]; omega
              · intro g6 cap6 w6 hown6 hgrow6 _ _
                have HN := Lib.hid (mi_next2 hkl H7.out K7.out (imP_one HK1.out him) HO5.out HB5.out rfl (by simp) hown6 hgrow6)
                clear hown6 hgrow6
                go_wp2
                case roundEnd => exact HN.out
        · have HK1 := Lib.hid k1
          have c7 : (l[k].kind == 7) = false := beq_eq_false_iff_ne.2 k7
          have c1 : (l[k].kind == 1) = false := beq_eq_false_iff_ne.2 k1
          clear k7 k1
          go_wp2_with (first | (at_builtin; refine wpList_append_lies _ rfl (.tmp 24) (.tmp 29) 24 rfl w.heap.size 36 i0 (.agg #[.int .i64 0, .int .i64 0, .complex .f64 0 0]) 3 32 Try.underlying24 hi hz0 hz1 hz2 rfl (by decide) _ _ _ rfl (HOWN.out.alloc _) ⟨wr.heap.size, 0, none⟩ 1 1 (ndCells l[k]) rfl rfl ?c1 ?c2 (by decide) ?c3 ?c4 ?c5 _ rfl ?_))
          case c1 =>
            intro j u hj
            match j, hj with
            | 0, hj => simp at hj; subst hj; simp [Addr.add]
            | 1, hj => simp at hj; subst hj; simp [Addr.add]
            | 2, hj => simp at hj; subst hj; simp [Addr.add]
          case c2 => exact nd_one' _
          case c3 => unfold maxLen; omega
          case c4 => omega
          case c5 => simp; omega
          · intro g' cap' w5 hown' hgrow _ _
            obtain ⟨y0, y1, y2⟩ := (cells_grown (HCW.out.below (bl_alloc (Below.refl _ wr) _) (by omega)) hgrow hne4) k hkl
            have HN := Lib.hid (mi_next hkl H7.out K7.out (imP_kind HK1.out) HOWN.out HB.out rfl rfl hown' hgrow)
            clear hown' hgrow
            go_wp2
            case roundEnd => exact HN.out
    · have ck : decide ((k : Int) < (l.length : Int)) = false := decide_eq_false (by omega)
      obtain rfl : k = l.length := by omega
      have hown := HOWN.out
      have h7 := H7.out
      rw [List.take_length] at hown h7
      have hpos : 0 < (mirs l).length := by omega
      obtain ⟨gs, cs, hvs⟩ := Joins.ownsRow_form hown hpos
      subst hvs
      by_cases hlong : 60 < (mirs l).length
      · have cl : decide ((60 : Int) < ((mirs l).length : Int)) = true := decide_eq_true (by omega)
        have HE := Lib.hid (fun v => mi_long2 (v := v) hlong (bl_alloc HB.out (.cells #[] 36)))
        clear hown
        go_wp2
        exact bodyPost_ret (v := .tuple #[.slice (some ⟨wr.heap.size, 0, none⟩) 0 0, .bool false]) (by simp (maxDischargeDepth := 6) [results, Try.results9, go_sem]) rfl (HE.out _)
      · have cl : decide ((60 : Int) < ((mirs l).length : Int)) = false := decide_eq_false (by omega)
        have HE := Lib.hid (fun v => mi_done2 (v := v) h7 hlong HB.out)
        clear hown
        go_wp2
        exact bodyPost_ret (v := .tuple #[.slice (some ⟨gs, 0, none⟩) (mirs l).length cs, .bool true]) (by simp (maxDischargeDepth := 6) [results, Try.results9, go_sem]) rfl (HE.out _)
end Go.Proofs.Ytjacimccpadgeaa
