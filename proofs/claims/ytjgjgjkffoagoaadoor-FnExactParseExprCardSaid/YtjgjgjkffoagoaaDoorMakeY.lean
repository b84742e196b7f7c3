/- What a drawn expression is: a row of good nodes in the call's own memory that is an expression, of at most 31 nodes. Condition: the cursor's form. -/
import Derived.Test.YtjgjgjkffoagoaaDoorMakeX
namespace Go.Proofs.YtjgjgjkffoagoaaDoor
open Go.RowKit
set_option maxRecDepth 100000
set_option maxHeartbeats 4000000
set_option linter.unusedVariables false
set_option linter.unusedSimpArgs false

/-- How many nodes an expression of so many levels may have. -/
def bd : Nat → Nat
  | 0 => 1
  | n + 1 => 2 * bd n + 1
theorem bd_le {n : Nat} (h : n ≤ 4) : bd n ≤ 31 := by
  have hc : n = 0 ∨ n = 1 ∨ n = 2 ∨ n = 3 ∨ n = 4 := by omega
  rcases hc with rfl | rfl | rfl | rfl | rfl <;> decide
theorem bd_pos (n : Nat) : 1 ≤ bd n := by cases n <;> simp [bd]
/-- What a draw of an expression ends with. -/
def MkE (c : Nat) (w : World) (b : Nat) (e : Ending) (w' : World) : Prop :=
  ∃ (v : Value) (l : List Nd) (g : Nat), e = .returned v ∧ NRow w' v l g ∧ w.heap.size ≤ g ∧ (∀ x ∈ l, GoodN x) ∧ IsEx l ∧ l.length ≤ b ∧ CurEnd c w w'
theorem ex_ne {l : List Nd} (h : IsEx l) : 0 < l.length := by
  cases l with
  | nil => have := h 0; simp [hrun] at this
  | cons x l => simp
theorem nd_one (l : List Nd) : ∀ u ∈ l.flatMap ndCells, u.oneCell' = true := by
  intro u hu
  obtain ⟨x, _, hx⟩ := List.mem_flatMap.1 hu
  simp only [ndCells, List.mem_cons, List.not_mem_nil, or_false] at hx
  rcases hx with h | h | h <;> subst h <;> rfl
theorem mk_leaf {c b : Nat} {w W : World} (x : Nd) (hc : CurOk c W) (hk : Kept c w W) (hg : GoodN x) (ha : arity x = 0) (hb : 1 ≤ b) :
    MkE c w b (.returned (.slice (some ⟨W.heap.size, 0, none⟩) 1 1)) (W.alloc (.cells #[.int .i64 x.kind, .int .i64 x.slot, .complex .f64 x.re x.im] 43)) :=
  ⟨_, [x], W.heap.size, rfl, NRow.lit W [x] (by simp), hk.size, fun y hy => by simp at hy; subst hy; exact hg, isEx_leaf ha, hb, hc.below (bl_alloc (Below.refl _ _) _), kp_alloc hk _⟩
theorem mk_g4 {a b ga g4 : Nat} (h : a ≤ ga) (hs : a ≤ b) (hl : some ga = some g4 ∨ g4 = b) : a ≤ g4 := by
  rcases hl with h' | h'
  · have := Option.some.inj h'; omega
  · omega
theorem nd_news (w : World) (x : Nd) : ∀ (j : Nat) (u : Value), (ndCells x)[j]? = some u → (w.alloc (.cells #[.int .i64 x.kind, .int .i64 x.slot, .complex .f64 x.re x.im] 43)).cell? ((⟨w.heap.size, 0, none⟩ : Addr).add j) = some u := by
  intro i u hj
  match i, hj with
  | 0, hj => simp at hj; subst hj; simp [Addr.add]
  | 1, hj => simp at hj; subst hj; simp [Addr.add]
  | 2, hj => simp at hj; subst hj; simp [Addr.add]
theorem nd_one' (x : Nd) : ∀ u ∈ ndCells x, u.oneCell' = true := by
  intro u hu
  simp only [ndCells, List.mem_cons, List.not_mem_nil, or_false] at hu
  rcases hu with h | h | h <;> subst h <;> rfl
theorem arity_of (k : Int) (a b : Nat) (h : 3 ≤ k ∧ k ≤ 7) : arity ⟨k, 0, a, b⟩ = 1 := by unfold arity; rw [if_neg (by simp only; omega), if_pos (by simp only; omega)]
theorem arity_of2 (k : Int) (a b : Nat) (h : 8 ≤ k) : arity ⟨k, 0, a, b⟩ = 2 := by unfold arity; rw [if_pos (by simp only; omega)]
theorem good_op (k : Int) (h : 3 ≤ k ∧ k ≤ 12) : GoodN ⟨k, 0, 0, 0⟩ := Or.inr (Or.inr ⟨h, rfl, rfl, rfl⟩)
theorem good_app {l m : List Nd} (h : ∀ x ∈ l, GoodN x) (h' : ∀ x ∈ m, GoodN x) : ∀ x ∈ l ++ m, GoodN x := fun x hx => (List.mem_append.1 hx).elim (h x) (h' x)
theorem good_sing {x : Nd} (h : GoodN x) : ∀ y ∈ [x], GoodN y := fun y hy => by simp at hy; subst hy; exact h

theorem mk_app1 {c b g g' cap cap0 : Nat} {k : Int} {w W W' : World} {o : Obj} {l : List Nd} (hc : CurOk c W) (hk : Kept c w W) (hg : w.heap.size ≤ g) (hgl : g < W.heap.size) (hgd : ∀ x ∈ l, GoodN x) (hex : IsEx (l ++ [⟨k, 0, 0, 0⟩])) (hk3 : 3 ≤ k ∧ k ≤ 12) (hb : l.length + 1 ≤ b)
    {n : Nat} {xs : List Value} (hn : n = l.length + 1) (hx : xs = l.flatMap ndCells ++ ndCells ⟨k, 0, 0, 0⟩) (hown : W'.ownsRow g 43 3 (.slice (some ⟨g', 0, none⟩) n cap) n xs) (hgr : (W.alloc o).grownBy W' (Value.slice (some ⟨g, 0, none⟩) l.length cap0).ownBlock)
    (hlies : (Value.slice (some ⟨g, 0, none⟩) l.length cap0).ownBlock = some g' ∨ g' = W.heap.size + 1) (hcw : c < w.heap.size := by assumption) :
    MkE c w b (.returned (.slice (some ⟨g', 0, none⟩) n cap)) W' := by
  have hgr : (W.alloc o).grownBy W' (some g) := hgr
  have hlies : some g = some g' ∨ g' = W.heap.size + 1 := hlies
  refine ⟨_, l ++ [⟨k, 0, 0, 0⟩], g', rfl, NRow.app (by simp [hn]) (by simp [hx]) hown, ?_, good_app hgd (good_sing (good_op k hk3)), hex, by simpa using hb, (hc.below (bl_alloc (Below.refl _ _) _)).grown hgr (fun k e => by have := Option.some.inj e; omega), (kp_alloc hk _).grown hgr (fun k e => by have := Option.some.inj e; omega)⟩
  have := hk.size
  rcases hlies with h | h
  · have := Option.some.inj h; omega
  · omega

theorem l08Make_any : ∀ (n : Nat), n ≤ 4 → ∀ (c : Nat) (w : World), CurOk c w →
    Calls Tryd.prog 16 #[.pointer (some ⟨c, 0, none⟩), .int .i64 (n : Int)] w (MkE c w (bd n)) := by
  intro n
  obtain ⟨i0, hi, hz0, hz1, hz2⟩ := info_parts A_infoN
  induction n with
  | zero =>
    intro _ c w H
    have hc := H.lt
    go_enter Tryd.func16, Tryd.ntmps16
    go_wp2_with fail
    go_at_call 31
    refine (l01Once_i c _ 2 _ H (by decide) (by decide) (by decide)).mono ?_
    rintro e wA ⟨tA, rfl, hcA, hkA⟩
    have hKA : Kept c w wA := hkA
    cases tA
    · go_wp2_with fail
      go_at_call 33
      refine (l08Value_any c _ hcA).mono ?_
      rintro e wB ⟨re, im, rfl, hv, hcB, hkB⟩
      have HE := Lib.hid (mk_leaf (b := bd 0) (W := wB) ⟨1, 0, re, im⟩ hcB (hKA.trans hkB) (Or.inl ⟨rfl, rfl, hv⟩) (by unfold arity; rfl) (bd_pos _))
      go_wp2
      go_ret
      exact HE.out
    · go_wp2_with fail
      go_at_call 32
      refine (l01Below_i c _ 4 _ hcA (by decide) (by decide) (by decide)).mono ?_
      rintro e wB ⟨k, rfl, hk4, hcB, hkB⟩
      have HE := Lib.hid (mk_leaf (b := bd 0) (W := wB) ⟨2, (k : Int), 0, 0⟩ hcB (hKA.trans hkB) (Or.inr (Or.inl ⟨rfl, ⟨by simp only; omega, by simp only; omega⟩, rfl, rfl⟩)) (by unfold arity; rfl) (bd_pos _))
      go_wp2
      go_ret
      exact HE.out
  | succ n ih =>
    intro hn c w H
    have hc := H.lt
    have hb := bd_le (n := n) (by omega)
    have hbs : bd (n + 1) = 2 * bd n + 1 := rfl
    have c0 : decide ((n : Int) + 1 ≤ 0) = false := decide_eq_false (by omega)
    go_enter Tryd.func16, Tryd.ntmps16
    go_wp2_with fail
    go_at_call 31
    refine (l01Once_i c _ 4 _ H (by decide) (by decide) (by decide)).mono ?_
    rintro e w0 ⟨t0, rfl, hc0, hk0⟩
    cases t0
    case true =>
      go_wp2_with fail
      go_at_call 31
      refine (l01Once_i c _ 2 _ hc0 (by decide) (by decide) (by decide)).mono ?_
      rintro e wA ⟨tA, rfl, hcA, hkA⟩
      have hKA : Kept c w wA := hk0.trans hkA
      cases tA
      · go_wp2_with fail
        go_at_call 33
        refine (l08Value_any c _ hcA).mono ?_
        rintro e wB ⟨re, im, rfl, hv, hcB, hkB⟩
        have HE := Lib.hid (mk_leaf (b := bd (n + 1)) (W := wB) ⟨1, 0, re, im⟩ hcB (hKA.trans hkB) (Or.inl ⟨rfl, rfl, hv⟩) (by unfold arity; rfl) (bd_pos _))
        go_wp2
        go_ret
        exact HE.out
      · go_wp2_with fail
        go_at_call 32
        refine (l01Below_i c _ 4 _ hcA (by decide) (by decide) (by decide)).mono ?_
        rintro e wB ⟨k, rfl, hk4, hcB, hkB⟩
        have HE := Lib.hid (mk_leaf (b := bd (n + 1)) (W := wB) ⟨2, (k : Int), 0, 0⟩ hcB (hKA.trans hkB) (Or.inr (Or.inl ⟨rfl, ⟨by simp only; omega, by simp only; omega⟩, rfl, rfl⟩)) (by unfold arity; rfl) (bd_pos _))
        go_wp2
        go_ret
        exact HE.out
    case false =>
      go_wp2_with fail
      go_at_call 16
      refine (ih (by omega) c _ hc0).mono ?_
      have hlt0 := hc0.lt
      rintro e w1 ⟨va, la, ga, rfl, hra, hga, hgda, hexa, hla, hc1, hk1⟩
      go_wp2_with fail
      go_at_call 31
      refine (l01Once_i c _ 3 _ hc1 (by decide) (by decide) (by decide)).mono ?_
      rintro e w2 ⟨t2, rfl, hc2, hk2⟩
      have hra2 := hra.kept hk2 (by omega)
      have hK2 : Kept c w w2 := (hk0.trans hk1).trans hk2
      cases t2
      case true =>
        go_wp2_with fail
        go_at_call 32
        refine (l01Below_i c _ 5 _ hc2 (by decide) (by decide) (by decide)).mono ?_
        rintro e w3 ⟨k, rfl, hk5, hc3, hk3⟩
        have hra3 := hra2.kept hk3 (by omega)
        have hltA := hra3.lt
        have hgaw : w.heap.size ≤ ga := Nat.le_trans hk0.size hga
        have hK3 := hK2.trans hk3
        obtain ⟨capa, rfl, howna⟩ := hra3
        have HOA := Lib.hid howna
        clear howna hra hra2
        go_wp2_with (first | (at_builtin; refine wpList_append_lies _ rfl _ _ 24 rfl ga 43 i0 (.agg #[.int .i64 0, .int .i64 0, .complex .f64 0 0]) 3 32 Tryd.underlying24 hi hz0 hz1 hz2 rfl (by decide) _ _ _ rfl (HOA.out.alloc _) ⟨w3.heap.size, 0, none⟩ 1 1 (ndCells ⟨3 + (k : Int), 0, 0, 0⟩) rfl rfl ?c1 ?c2 (by decide) ?c3 ?c4 ?c5 _ rfl ?_))
        case c1 =>
          intro i u hj
          match i, hj with
          | 0, hj => simp at hj; subst hj; simp [Addr.add]
          | 1, hj => simp at hj; subst hj; simp [Addr.add]
          | 2, hj => simp at hj; subst hj; simp [Addr.add]
        case c2 =>
          intro u hu
          simp only [ndCells, List.mem_cons, List.not_mem_nil, or_false] at hu
          rcases hu with h | h | h <;> subst h <;> rfl
        case c3 => unfold maxLen; omega
        case c4 => omega
        case c5 => rw [World.size_alloc]; omega
        · intro g' cap' w4 hown' hgr hlies _
          have HE := Lib.hid (mk_app1 (b := bd (n + 1)) (k := 3 + (k : Int)) hc3 hK3 hgaw hltA hgda (isEx_one hexa (arity_of (3 + (k : Int)) 0 0 ⟨by omega, by omega⟩)) ⟨by omega, by omega⟩ (by omega) rfl (by simp) hown' hgr hlies)
          clear hown' hgr hlies
          go_wp2
          go_ret
          exact HE.out
      case false =>
        go_wp2_with fail
        go_at_call 16
        refine (ih (by omega) c _ hc2).mono ?_
        rintro e w3 ⟨vb, lb, gb, rfl, hrb, hgb, hgdb, hexb, hlb, hc3, hk3⟩
        have hltA2 := hra2.lt
        have hra3 := hra2.kept hk3 (by omega)
        have hltA := hra3.lt
        have hltB := hrb.lt
        have hgaw : w.heap.size ≤ ga := Nat.le_trans hk0.size hga
        have hK3 := hK2.trans hk3
        have hcw : c < w.heap.size := hc
        obtain ⟨capa, rfl, howna⟩ := hra3
        obtain ⟨capb, rfl, hownb⟩ := hrb
        have HOA := Lib.hid howna
        have HOB := Lib.hid hownb
        clear howna hownb hra hra2
        go_wp2_with (first | (at_builtin; refine wpList_append_lies _ rfl (.tmp 40) (.tmp 41) 24 rfl ga 43 i0 (.agg #[.int .i64 0, .int .i64 0, .complex .f64 0 0]) 3 32 Tryd.underlying24 hi hz0 hz1 hz2 rfl (by decide) _ _ _ rfl HOA.out ⟨gb, 0, none⟩ lb.length capb (lb.flatMap ndCells) rfl (flat_len lb) (HOB.out.cells rfl) (nd_one lb) (ex_ne hexb) (by unfold maxLen; omega) (by omega) (by omega) _ rfl ?_; intro g4 cap4 w4 hown4 hgr4 hlies4 hl4; have hgr4 := (show w3.grownBy w4 (some ga) from hgr4); have hlies4 := (show some ga = some g4 ∨ g4 = w3.heap.size from hlies4); have hg4 : w.heap.size ≤ g4 := mk_g4 hgaw hK3.size hlies4; have hc4 := hc3.grown hgr4 (fun k e => by have := Option.some.inj e; omega); have hK4 := hK3.grown hgr4 (fun k e => by have := Option.some.inj e; omega); have HO4 := Lib.hid (own_at hown4); clear hown4 hgr4 hlies4) | (go_at_call 34; (with_reducible refine (l01PickInt_any c _ 8 _ [0, 0, 1, 1, 2, 2, 3, 4] _ (hc4.below (bl_alloc (Below.refl _ _) _)) (by with_unfolding_all rfl) (by decide) (by decide) (by decide) (Blk.new_at _ _ _ rfl) (by omega)).mono ?_); rintro e w5 ⟨k, hkm, rfl, hc5, hk5⟩; have HO5 := Lib.hid (own_block (HO4.out.alloc _) (hk5.block g4 (by rw [World.size_alloc]; omega) (by omega))); have hK5 := (kp_alloc hK4 _).trans hk5; have HKM := Lib.hid hkm; clear hkm; have hl5 : g4 < w5.heap.size := (HO5.out.lt g4 rfl).2) | (at_builtin; refine wpList_append_lies _ rfl (.tmp 42) (.tmp 48) 24 rfl g4 43 i0 (.agg #[.int .i64 0, .int .i64 0, .complex .f64 0 0]) 3 32 Tryd.underlying24 hi hz0 hz1 hz2 rfl (by decide) _ _ _ rfl (HO5.out.alloc _) ⟨w5.heap.size, 0, none⟩ 1 1 (ndCells ⟨8 + k, 0, 0, 0⟩) rfl rfl ?c1 ?c2 (by decide) ?c3 ?c4 ?c5 _ rfl ?_))
        case c1 =>
          have hw8 : wrap64 (8 + k) = 8 + k := by
            have h := HKM.out
            simp at h
            rcases h with h | h | h | h | h <;> subst h <;> (unfold wrap64; omega)
          rw [hw8]
          exact nd_news w5 ⟨8 + k, 0, 0, 0⟩
        case c2 => exact nd_one' _
        case c3 => unfold maxLen; omega
        case c4 => omega
        case c5 => rw [World.size_alloc]; omega
        · intro g6 cap6 w6 hown6 hgr6 hlies6 _
          have HE := Lib.hid (mk_app1 (b := bd (n + 1)) (k := 8 + k) hc5 hK5 hg4 hl5 (good_app hgda hgdb) (isEx_two hexa hexb (arity_of2 (8 + k) 0 0 (by have h := HKM.out; simp at h; omega))) (by have h := HKM.out; simp at h; omega) (by simp; omega) (by simp) (by simp) hown6 (by simpa using hgr6) (by simpa using hlies6))
          clear hown6 hgr6 hlies6
          go_wp2
          go_ret
          exact HE.out
end Go.Proofs.YtjgjgjkffoagoaaDoor
