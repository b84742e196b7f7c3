/- What a draw of two runs of numbers and a unit is: two rows of numbers in the call's own memory, at most 61 and 6 of them, and any unit. Condition: the bytes drawn from are bytes. -/
import Derived.Test.YtldcciipicnooaaDoorDrawD
namespace Go.Proofs.YtldcciipicnooaaDoor
open Go.RowKit
attribute [local go_sem] run_store_complex
set_option maxRecDepth 100000
set_option maxHeartbeats 4000000
set_option linter.unusedVariables false
set_option linter.unusedSimpArgs false

/-- What holds from the second run on: the two rows, the cursor, the unit's block, the result's block. -/
structure DInv (w : World) (c B6 : Nat) (s : ByteArray) (m x : Int) (va : Value) (na ga : Nat) (vb : Value) (nb gb : Nat) (W : World) : Prop where
  a : CRow W va na ga
  b : CRow W vb nb gb
  cur : CurOk c W
  u : Blk W B6 38 #[.string s, .int .i64 m, .int .i64 x]
  z : Blk W w.heap.size 38 #[.string ⟨#[]⟩, .int .i64 0, .int .i64 0]
  hb : Below w.heap.size w W
  n1 : w.heap.size < c
  n2 : c < B6
  n3 : B6 < ga
  n4 : B6 < gb
  n5 : ga ≠ gb
section
variable {w W W' : World} {c B6 : Nat} {s : ByteArray} {m x : Int} {va : Value} {na ga : Nat} {vb : Value} {nb gb : Nat}
theorem DInv.call (h : DInv w c B6 s m x va na ga vb nb gb W) (hc : CurOk c W') (hk : Kept c W W') : DInv w c B6 s m x va na ga vb nb gb W' :=
  ⟨h.a.kept hk (by have := h.n2; have := h.n3; omega), h.b.kept hk (by have := h.n2; have := h.n4; omega), hc, h.u.kept hk (by have := h.n2; omega), h.z.kept hk (by have := h.n1; omega), bl_kept h.hb hk (Nat.le_of_lt h.n1), h.n1, h.n2, h.n3, h.n4, h.n5⟩
theorem DInv.setb (h : DInv w c B6 s m x va na ga vb nb gb W) (i : Nat) (z : Nat × Nat) : DInv w c B6 s m x va na ga vb nb gb (W.setCell ⟨gb, i, none⟩ (cxv z)) :=
  ⟨h.a.far (by exact h.n5) _, h.b.store i z, h.cur.far (by show c < gb; have := h.n2; have := h.n4; omega) _, h.u.far (by show B6 ≠ gb; have := h.n4; omega) _, h.z.far (by show w.heap.size ≠ gb; have := h.n1; have := h.n2; have := h.n4; omega) _,
    h.hb.setCell (by show w.heap.size ≤ gb; have := h.n1; have := h.n2; have := h.n4; omega) _, h.n1, h.n2, h.n3, h.n4, h.n5⟩
theorem DInv.appb (h : DInv w c B6 s m x va na ga vb nb gb W) {o : Obj} {g' cap : Nat} {l : List (Nat × Nat)} {z : Nat × Nat} (hl : l.length = nb)
    (hown : W'.ownsRow gb 68 1 (.slice (some ⟨g', 0, none⟩) (nb + 1) cap) (nb + 1) (l.map cxv ++ [cxv z])) (hgr : (W.alloc o).grownBy W' (some gb)) (hlies : some gb = some g' ∨ g' = W.heap.size + 1) :
    DInv w c B6 s m x va na ga (.slice (some ⟨g', 0, none⟩) (nb + 1) cap) (nb + 1) g' W' := by
  have ha := h.a.lt
  have hb := h.b.lt
  have n1 := h.n1; have n2 := h.n2; have n3 := h.n3; have n4 := h.n4; have n5 := h.n5
  have hs2 : (W.alloc o).heap.size = W.heap.size + 1 := World.size_alloc W _
  have hu := h.u.lt
  have hz := h.z.lt
  refine ⟨(h.a.alloc o).grown hgr (fun e => n5 (Option.some.inj e)), CRow.app hl hown, (h.cur.below (bl_alloc (Below.refl _ _) o)).grown hgr (fun k e => by have := Option.some.inj e; omega), ?_, ?_, (bl_alloc h.hb o).grown hgr (by have := h.hb.size; omega) (fun k e => by have := Option.some.inj e; omega), n1, n2, n3, ?_, ?_⟩
  · exact (hgr.block B6 (by omega) (fun e => by have := Option.some.inj e; omega)).trans (h.u.alloc o)
  · exact (hgr.block w.heap.size (by omega) (fun e => by have := Option.some.inj e; omega)).trans (h.z.alloc o)
  · rcases hlies with e | e
    · have := Option.some.inj e; omega
    · omega
  · rcases hlies with e | e
    · have := Option.some.inj e; omega
    · omega
theorem DInv.appa (h : DInv w c B6 s m x va na ga vb nb gb W) {o : Obj} {g' cap : Nat} {l : List (Nat × Nat)} {z : Nat × Nat} (hl : l.length = na)
    (hown : W'.ownsRow ga 68 1 (.slice (some ⟨g', 0, none⟩) (na + 1) cap) (na + 1) (l.map cxv ++ [cxv z])) (hgr : (W.alloc o).grownBy W' (some ga)) (hlies : some ga = some g' ∨ g' = W.heap.size + 1) :
    DInv w c B6 s m x (.slice (some ⟨g', 0, none⟩) (na + 1) cap) (na + 1) g' vb nb gb W' := by
  have ha := h.a.lt
  have hb := h.b.lt
  have n1 := h.n1; have n2 := h.n2; have n3 := h.n3; have n4 := h.n4; have n5 := h.n5
  have hs2 : (W.alloc o).heap.size = W.heap.size + 1 := World.size_alloc W _
  have hu := h.u.lt
  have hz := h.z.lt
  refine ⟨CRow.app hl hown, (h.b.alloc o).grown hgr (fun e => n5 (Option.some.inj e).symm), (h.cur.below (bl_alloc (Below.refl _ _) o)).grown hgr (fun k e => by have := Option.some.inj e; omega), ?_, ?_, (bl_alloc h.hb o).grown hgr (by have := h.hb.size; omega) (fun k e => by have := Option.some.inj e; omega), n1, n2, ?_, n4, ?_⟩
  · exact (hgr.block B6 (by omega) (fun e => by have := Option.some.inj e; omega)).trans (h.u.alloc o)
  · exact (hgr.block w.heap.size (by omega) (fun e => by have := Option.some.inj e; omega)).trans (h.z.alloc o)
  · rcases hlies with e | e
    · have := Option.some.inj e; omega
    · omega
  · rcases hlies with e | e
    · have := Option.some.inj e; omega
    · omega
end

/-- What a draw of two runs ends with. -/
def DcEnd (w : World) (e : Ending) (w' : World) : Prop :=
  ∃ (va : Value) (na ga : Nat) (vb : Value) (nb gb : Nat) (s : ByteArray) (m x : Int), e = .returned (.tuple #[va, vb, unitB s m x]) ∧ CRow w' va na ga ∧ CRow w' vb nb gb ∧ na ≤ 61 ∧ nb ≤ 6 ∧ Below w.heap.size w w'

theorem row_form {w W : World} {base n : Nat} {v : Value} {xs : List Value} {l : List (Nat × Nat)} (h : W.ownsRow base 68 1 v n xs) (hx : xs = l.map cxv) (hne : v ≠ .slice none 0 0) : ∃ g cap, base ≤ g ∧ v = .slice (some ⟨g, 0, none⟩) n cap ∧ CRow W v n g := by
  subst hx
  have hl : l.length = n := by simpa using h.1
  rcases h.2 with ⟨h1, _⟩ | ⟨g, cap, cur, h1, h2, h3, h4⟩
  · exact absurd h1 hne
  · subst h1
    exact ⟨g, cap, h2, rfl, cap, l, rfl, hl, h.1, .inr ⟨g, cap, cur, rfl, Nat.le_refl _, h3, h4⟩⟩
theorem own_empty (W : World) : (W.alloc (.cells #[] 68)).ownsRow W.heap.size 68 1 (.slice (some ⟨W.heap.size, 0, none⟩) 0 0) 0 [] :=
  World.ownsRow_lit (base := W.heap.size) W #[] 0 (Nat.le_refl _) (Nat.zero_le _) rfl
theorem dc_end {w W : World} {c B6 : Nat} {s : ByteArray} {m x : Int} {va : Value} {na ga : Nat} {vb : Value} {nb gb : Nat} (h : DInv w c B6 s m x va na ga vb nb gb W) (ha : na ≤ 61) (hb : nb ≤ 6) :
    DcEnd w (.returned (.tuple #[va, vb, unitB s m x])) (((W.setCell ⟨w.heap.size, 0, none⟩ (.string s)).setCell ⟨w.heap.size, 1, none⟩ (.int .i64 m)).setCell ⟨w.heap.size, 2, none⟩ (.int .i64 x)).drew := by
  have n1 := h.n1; have n2 := h.n2; have n3 := h.n3; have n4 := h.n4
  have a0 := h.a
  have b0 := h.b
  exact ⟨va, na, ga, vb, nb, gb, s, m, x, rfl, CRow.of_block (((a0.far (by show ga ≠ w.heap.size; omega) _).far (by show ga ≠ w.heap.size; omega) _).far (by show ga ≠ w.heap.size; omega) _) rfl, CRow.of_block (((b0.far (by show gb ≠ w.heap.size; omega) _).far (by show gb ≠ w.heap.size; omega) _).far (by show gb ≠ w.heap.size; omega) _) rfl, ha, hb,
    Below.drew (((h.hb.setCell (Nat.le_refl _) _).setCell (Nat.le_refl _) _).setCell (Nat.le_refl _) _)⟩
theorem dc_cells {w W : World} {c B6 : Nat} {s : ByteArray} {m x : Int} {va : Value} {na ga : Nat} {vb : Value} {nb gb : Nat} (h : DInv w c B6 s m x va na ga vb nb gb W) :
    let X := (((W.setCell ⟨w.heap.size, 0, none⟩ (.string s)).setCell ⟨w.heap.size, 1, none⟩ (.int .i64 m)).setCell ⟨w.heap.size, 2, none⟩ (.int .i64 x)).drew
    X.cell? ⟨w.heap.size, 0, none⟩ = some (.string s) ∧ X.cell? ⟨w.heap.size, 1, none⟩ = some (.int .i64 m) ∧ X.cell? ⟨w.heap.size, 2, none⟩ = some (.int .i64 x) := by
  have hb := ((h.z.set_ 0 (.string s)).set_ 1 (.int .i64 m)).set_ 2 (.int .i64 x)
  exact ⟨hb.cell 0, hb.cell 1, hb.cell 2⟩

theorem drawRuns_any (A : Option Addr) (len cap : Nat) (w : World) (hlen : len ≤ maxLen) (hrow : RowOk w.heap.size w A len) :
    Calls Tryd.prog 17 #[.slice A len cap] w (DcEnd w) := by
  obtain ⟨i0, hi, hz0, hz1, hz2⟩ := info_parts A_infoC
  have hs0 : (w.alloc (.cells #[.string ⟨#[]⟩, .int .i64 0, .int .i64 0] 38)).heap.size = w.heap.size + 1 := World.size_alloc w _
  go_enter Tryd.func17, Tryd.ntmps17
  go_wp2_with fail
  go_at_call 36
  refine (l01New_any _ _ _ _ hlen (hrow.more (bl_alloc (Below.refl _ _) _) (by omega))).mono ?_
  rintro e w1 ⟨rfl, hc1, hb1⟩
  rw [hs0] at hc1 hb1
  have Z1 := Blk.below (Blk.new w 38 #[.string ⟨#[]⟩, .int .i64 0, .int .i64 0]) hb1 (by omega)
  have HB1 : Below w.heap.size w w1 := (bl_alloc (Below.refl w.heap.size w) _).trans (hb1.mono (by omega))
  clear hb1
  go_wp2_with fail
  go_at_call 42
  refine (l10Any_any _ _ hc1).mono ?_
  rintro e w2 ⟨s, m, x, rfl, hc2, hk2⟩
  have Z2 := Z1.kept hk2 (by omega)
  have HB2 := bl_kept HB1 hk2 (by omega)
  have hlt2 := hc2.lt
  clear hk2 Z1 HB1
  unfold unitB
  go_wp2_with fail
  have hs2 : (w2.alloc (unitO s m x)).heap.size = w2.heap.size + 1 := World.size_alloc w2 _
  go_at_call 43
  refine (l10Run_any _ s m x _ (hc2.below (bl_alloc (Below.refl _ _) _))).mono ?_
  rintro e w3 ⟨va, na, ga, rfl, ⟨capa, la, rfl, hla, howna⟩, hna, hga, hc3, hk3⟩
  rw [hs2] at hga
  have U3 := Blk.kept (Blk.new w2 38 #[.string s, .int .i64 m, .int .i64 x]) hk3 (by omega)
  have Z3 := Blk.kept (Z2.alloc (unitO s m x)) hk3 (by omega)
  have HB3 := bl_kept (bl_alloc HB2 (unitO s m x)) hk3 (by omega)
  have hga3 : ga < w3.heap.size := (howna.lt ga rfl).2
  have HA3 := Lib.hid howna
  clear howna hk3 Z2 HB2 hc1
  have hs3 : (w3.alloc (.cells #[] 68)).heap.size = w3.heap.size + 1 := World.size_alloc w3 _
  have HEM := Lib.hid (own_empty w3)
  go_wp2_with (first | (at_builtin; refine wpList_append_own _ rfl _ _ 36 rfl w3.heap.size 68 i0 (.complex .f32 0 0) 1 8 Tryd.underlying36 hi hz0 hz1 hz2 rfl (by decide) _ _ _ rfl HEM.out ⟨ga, 0, none⟩ na capa (la.map cxv) rfl (by simp [hla]) ?c1 ?c2 ?c3 ?c4 ?c5 ?_))
  case c1 => exact (HA3.out.alloc _).cells rfl
  case c2 =>
    intro u hu
    obtain ⟨z, _, rfl⟩ := List.mem_map.1 hu
    rfl
  case c3 => unfold maxLen; omega
  case c4 => omega
  case c5 => rw [World.size_alloc]; omega
  · intro vb w4 hownb hgr hnil
    obtain ⟨gb, capb, hgb, rfl, hb4⟩ := row_form (w := w) (l := la) hownb (by simp) hnil
    have hgr := (show (w3.alloc (.cells #[] 68)).grownBy w4 (some w3.heap.size) from hgr)
    have HD4 : Hid (DInv w (w.heap.size + 1) w2.heap.size s m x (.slice (some ⟨ga, 0, none⟩) na capa) na ga (.slice (some ⟨gb, 0, none⟩) na capb) na gb w4) := Lib.hid
      ⟨CRow.grown (CRow.alloc ⟨capa, la, rfl, hla, HA3.out⟩ _) hgr (fun e => by have := Option.some.inj e; omega), hb4, (hc3.below (bl_alloc (Below.refl _ _) _)).grown hgr (fun k e => by have := Option.some.inj e; omega),
        (hgr.block _ (by rw [hs3]; omega) (fun e => by have := Option.some.inj e; omega)).trans (U3.alloc _), (hgr.block _ (by rw [hs3]; omega) (fun e => by have := Option.some.inj e; omega)).trans (Z3.alloc _),
        (bl_alloc HB3 _).grown hgr (by rw [hs3]; have := HB3.size; omega) (fun k e => by have := Option.some.inj e; have := HB3.size; omega), by omega, by omega, by omega, by omega, by omega⟩
    clear hownb hgr hnil hb4 U3 Z3 HB3 HA3 HEM hc3
    go_wp2
    go_loopw [9] (fun v wr => ∃ i : Nat, v = .int .i64 i ∧ i ≤ na ∧ DInv w (w.heap.size + 1) w2.heap.size s m x (.slice (some ⟨ga, 0, none⟩) na capa) na ga (.slice (some ⟨gb, 0, none⟩) na capb) na gb wr) (fun v _ => na - (RowKit.intOf v).toNat)
    case atStart => exact ⟨0, rfl, Nat.zero_le _, HD4.out⟩
    case round =>
      obtain ⟨i, rfl, hi2, hd⟩ := hrel
      have HD := Lib.hid hd
      clear hd HD4
      by_cases hlt : i < na
      · have ci : decide ((i : Int) < (na : Int)) = true := decide_eq_true (by omega)
        go_wp2_with fail
        go_at_call 44
        refine (l01Once_i _ 3 3 _ HD.out.cur (by decide) (by decide) (by decide)).mono ?_
        rintro e w5 ⟨t5, rfl, hc5, hk5⟩
        have HD5 := Lib.hid (HD.out.call hc5 hk5)
        clear hc5 hk5
        cases t5
        · go_wp2
          case roundEnd => exact ⟨⟨i + 1, by simp, hlt, HD5.out⟩, by simp [RowKit.intOf]; omega⟩
        · have u0 := HD5.out.u.cell 0
          have u1 := HD5.out.u.cell 1
          have u2 := HD5.out.u.cell 2
          simp only [List.getElem?_toArray, List.getElem?_cons_zero, List.getElem?_cons_succ] at u0 u1 u2
          go_wp2_with fail
          go_at_call 45
          refine (l10Number2_any _ s m x _ HD5.out.cur).mono ?_
          rintro e w6 ⟨za, zb, rfl, hc6, hk6⟩
          have HD6 := Lib.hid (HD5.out.call hc6 hk6)
          clear hc6 hk6
          obtain ⟨k0, l0, hv0, hl0, ho0⟩ := HD6.out.b
          obtain rfl : capb = k0 := by simpa using (Value.slice.inj hv0).2.2
          have y0 : w6.cell? ⟨gb, i, none⟩ = some (cxv (l0[i]'(by omega))) := by rw [ho0.cellAt i (by omega)]; simp [hl0, hlt]
          have y1 := ho0.frozenAt i
          have HN := Lib.hid (HD6.out.setb i (za, zb))
          clear hv0 ho0
          go_wp2
          case roundEnd => exact ⟨⟨i + 1, by simp, hlt, HN.out⟩, by simp [RowKit.intOf]; omega⟩
      · obtain rfl : i = na := by omega
        have ci : decide ((i : Int) < (i : Int)) = false := decide_eq_false (by omega)
        go_wp2_with fail
        go_at_call 44
        refine (l01Once_i _ 3 3 _ HD.out.cur (by decide) (by decide) (by decide)).mono ?_
        rintro e w7 ⟨t7, rfl, hc7, hk7⟩
        have HD7 := Lib.hid (HD.out.call hc7 hk7)
        clear hc7 hk7
        cases t7
        · go_wp2_with fail
          go_at_call 44
          refine (l01Once_i _ 30 30 _ HD7.out.cur (by decide) (by decide) (by decide)).mono ?_
          rintro e w8 ⟨t8, rfl, hc8, hk8⟩
          have HD8 := Lib.hid (HD7.out.call hc8 hk8)
          clear hc8 hk8
          cases t8
          · have z0 := HD8.out.z.cell 0
            have z1 := HD8.out.z.cell 1
            have z2 := HD8.out.z.cell 2
            have e0 := HD8.out.z.frozen 0
            have e1 := HD8.out.z.frozen 1
            have e2 := HD8.out.z.frozen 2
            have u0 := HD8.out.u.cell 0
            have u1 := HD8.out.u.cell 1
            have u2 := HD8.out.u.cell 2
            simp only [List.getElem?_toArray, List.getElem?_cons_zero, List.getElem?_cons_succ] at z0 z1 z2 u0 u1 u2
            have HE := Lib.hid (dc_end HD8.out (by omega) (by omega))
            obtain ⟨q0, q1, q2⟩ := dc_cells HD8.out
            go_wp2_with fail
            go_region
            go_wp2
            exact bodyPost_ret (v := .tuple #[.slice (some ⟨ga, 0, none⟩) i capa, (.slice (some ⟨gb, 0, none⟩) i capb), unitB s m x]) (by simp (maxDischargeDepth := 6) [results, Tryd.results17, go_sem, unitB, q0, q1, q2]) rfl HE.out
          · go_wp2_with fail
            go_loopg [7] (61 - i) (fun g v wr => ∃ n' ga' cap' : Nat, v = .slice (some ⟨ga', 0, none⟩) n' cap' ∧ n' + g = 61 ∧ DInv w (w.heap.size + 1) w2.heap.size s m x v n' ga' (.slice (some ⟨gb, 0, none⟩) i capb) i gb wr)
            case atStart => exact ⟨i, ga, capa, rfl, by omega, HD8.out⟩
            case round =>
              obtain ⟨n', ga', cap', rfl, hng, hdx⟩ := hrel
              have HDX := Lib.hid hdx
              clear hdx
              go_wp2_with fail
              go_at_call 38
              refine (l01Below_i _ 2 2 _ HDX.out.cur (by decide) (by decide) (by decide)).mono ?_
              rintro e w9 ⟨k9, rfl, hk9, hc9, hkp9⟩
              have HD9 := Lib.hid (HDX.out.call hc9 hkp9)
              clear hc9 hkp9
              by_cases hgo : n' < 60 + k9
              · have cg : decide ((n' : Int) < 60 + (k9 : Int)) = true := decide_eq_true (by omega)
                obtain ⟨g, rfl⟩ : ∃ g, gk = g + 1 := ⟨gk - 1, by omega⟩
                obtain ⟨kc, l9, hv9, hl9, ho9⟩ := HD9.out.a
                obtain rfl : cap' = kc := by simpa using (Value.slice.inj hv9).2.2
                have HO9 := Lib.hid ho9
                have hsz9 := HD9.out.a.lt
                clear hv9 ho9
                go_wp2_with (first | (at_builtin; refine wpList_append_lies _ rfl _ _ 36 rfl ga' 68 i0 (.complex .f32 0 0) 1 8 Tryd.underlying36 hi hz0 hz1 hz2 rfl (by decide) _ _ _ rfl (HO9.out.alloc _) ⟨w9.heap.size, 0, none⟩ 1 1 [cxv (1065353216, 0)] rfl rfl ?c1 ?c2 (by decide) ?c3 ?c4 ?c5 _ rfl ?_))
                case c1 =>
                  intro i u hj
                  match i, hj with
                  | 0, hj => simp at hj; subst hj; simp [Addr.add]
                case c2 => intro u hu; simp at hu; subst hu; rfl
                case c3 => unfold maxLen; omega
                case c4 => omega
                case c5 => rw [World.size_alloc]; omega
                · intro g' cap2 w10 hown' hgr' hlies _
                  have HN := Lib.hid (HD9.out.appa hl9 hown' hgr' hlies)
                  clear hown' hgr' hlies
                  go_wp2
                  go_roundg g
                  case measure => omega
                  case rel => exact ⟨n' + 1, g', cap2, rfl, by omega, HN.out⟩
              · have cg : decide ((n' : Int) < 60 + (k9 : Int)) = false := decide_eq_false (by omega)
                have z0 := HD9.out.z.cell 0
                have z1 := HD9.out.z.cell 1
                have z2 := HD9.out.z.cell 2
                have e0 := HD9.out.z.frozen 0
                have e1 := HD9.out.z.frozen 1
                have e2 := HD9.out.z.frozen 2
                have u0 := HD9.out.u.cell 0
                have u1 := HD9.out.u.cell 1
                have u2 := HD9.out.u.cell 2
                simp only [List.getElem?_toArray, List.getElem?_cons_zero, List.getElem?_cons_succ] at z0 z1 z2 u0 u1 u2
                have HE := Lib.hid (dc_end HD9.out (by omega) (by omega))
                obtain ⟨q0, q1, q2⟩ := dc_cells HD9.out
                go_wp2_with fail
                go_region
                go_wp2
                exact bodyPost_ret (v := .tuple #[.slice (some ⟨ga', 0, none⟩) n' cap', (.slice (some ⟨gb, 0, none⟩) i capb), unitB s m x]) (by simp (maxDischargeDepth := 6) [results, Tryd.results17, go_sem, unitB, q0, q1, q2]) rfl HE.out
        · obtain ⟨kb, lb, hvb, hlb, hob⟩ := HD7.out.b
          obtain rfl : capb = kb := by simpa using (Value.slice.inj hvb).2.2
          have HOB := Lib.hid hob
          have hszb := HD7.out.b.lt
          clear hvb hob
          go_wp2_with (first | (at_builtin; refine wpList_append_lies _ rfl _ _ 36 rfl gb 68 i0 (.complex .f32 0 0) 1 8 Tryd.underlying36 hi hz0 hz1 hz2 rfl (by decide) _ _ _ rfl (HOB.out.alloc _) ⟨w7.heap.size, 0, none⟩ 1 1 [cxv (1065353216, 0)] rfl rfl ?c1 ?c2 (by decide) ?c3 ?c4 ?c5 _ rfl ?_))
          case c1 =>
            intro i u hj
            match i, hj with
            | 0, hj => simp at hj; subst hj; simp [Addr.add]
          case c2 => intro u hu; simp at hu; subst hu; rfl
          case c3 => unfold maxLen; omega
          case c4 => omega
          case c5 => rw [World.size_alloc]; omega
          · intro gn capn wn hown' hgr' hlies _
            have HDN := Lib.hid (HD7.out.appb hlb hown' hgr' hlies)
            clear hown' hgr' hlies
            go_wp2_with fail
            go_at_call 44
            refine (l01Once_i _ 30 30 _ HDN.out.cur (by decide) (by decide) (by decide)).mono ?_
            rintro e w8 ⟨t8, rfl, hc8, hk8⟩
            have HD8 := Lib.hid (HDN.out.call hc8 hk8)
            clear hc8 hk8
            cases t8
            · have z0 := HD8.out.z.cell 0
              have z1 := HD8.out.z.cell 1
              have z2 := HD8.out.z.cell 2
              have e0 := HD8.out.z.frozen 0
              have e1 := HD8.out.z.frozen 1
              have e2 := HD8.out.z.frozen 2
              have u0 := HD8.out.u.cell 0
              have u1 := HD8.out.u.cell 1
              have u2 := HD8.out.u.cell 2
              simp only [List.getElem?_toArray, List.getElem?_cons_zero, List.getElem?_cons_succ] at z0 z1 z2 u0 u1 u2
              have HE := Lib.hid (dc_end HD8.out (by omega) (by omega))
              obtain ⟨q0, q1, q2⟩ := dc_cells HD8.out
              go_wp2_with fail
              go_region
              go_wp2
              exact bodyPost_ret (v := .tuple #[.slice (some ⟨ga, 0, none⟩) i capa, (.slice (some ⟨gn, 0, none⟩) (i + 1) capn), unitB s m x]) (by simp (maxDischargeDepth := 6) [results, Tryd.results17, go_sem, unitB, q0, q1, q2]) rfl HE.out
            · go_wp2_with fail
              go_loopg [7] (61 - i) (fun g v wr => ∃ n' ga' cap' : Nat, v = .slice (some ⟨ga', 0, none⟩) n' cap' ∧ n' + g = 61 ∧ DInv w (w.heap.size + 1) w2.heap.size s m x v n' ga' (.slice (some ⟨gn, 0, none⟩) (i + 1) capn) (i + 1) gn wr)
              case atStart => exact ⟨i, ga, capa, rfl, by omega, HD8.out⟩
              case round =>
                obtain ⟨n', ga', cap', rfl, hng, hdx⟩ := hrel
                have HDX := Lib.hid hdx
                clear hdx
                go_wp2_with fail
                go_at_call 38
                refine (l01Below_i _ 2 2 _ HDX.out.cur (by decide) (by decide) (by decide)).mono ?_
                rintro e w9 ⟨k9, rfl, hk9, hc9, hkp9⟩
                have HD9 := Lib.hid (HDX.out.call hc9 hkp9)
                clear hc9 hkp9
                by_cases hgo : n' < 60 + k9
                · have cg : decide ((n' : Int) < 60 + (k9 : Int)) = true := decide_eq_true (by omega)
                  obtain ⟨g, rfl⟩ : ∃ g, gk = g + 1 := ⟨gk - 1, by omega⟩
                  obtain ⟨kc, l9, hv9, hl9, ho9⟩ := HD9.out.a
                  obtain rfl : cap' = kc := by simpa using (Value.slice.inj hv9).2.2
                  have HO9 := Lib.hid ho9
                  have hsz9 := HD9.out.a.lt
                  clear hv9 ho9
                  go_wp2_with (first | (at_builtin; refine wpList_append_lies _ rfl _ _ 36 rfl ga' 68 i0 (.complex .f32 0 0) 1 8 Tryd.underlying36 hi hz0 hz1 hz2 rfl (by decide) _ _ _ rfl (HO9.out.alloc _) ⟨w9.heap.size, 0, none⟩ 1 1 [cxv (1065353216, 0)] rfl rfl ?c1 ?c2 (by decide) ?c3 ?c4 ?c5 _ rfl ?_))
                  case c1 =>
                    intro i u hj
                    match i, hj with
                    | 0, hj => simp at hj; subst hj; simp [Addr.add]
                  case c2 => intro u hu; simp at hu; subst hu; rfl
                  case c3 => unfold maxLen; omega
                  case c4 => omega
                  case c5 => rw [World.size_alloc]; omega
                  · intro g' cap2 w10 hown' hgr' hlies _
                    have HN := Lib.hid (HD9.out.appa hl9 hown' hgr' hlies)
                    clear hown' hgr' hlies
                    go_wp2
                    go_roundg g
                    case measure => omega
                    case rel => exact ⟨n' + 1, g', cap2, rfl, by omega, HN.out⟩
                · have cg : decide ((n' : Int) < 60 + (k9 : Int)) = false := decide_eq_false (by omega)
                  have z0 := HD9.out.z.cell 0
                  have z1 := HD9.out.z.cell 1
                  have z2 := HD9.out.z.cell 2
                  have e0 := HD9.out.z.frozen 0
                  have e1 := HD9.out.z.frozen 1
                  have e2 := HD9.out.z.frozen 2
                  have u0 := HD9.out.u.cell 0
                  have u1 := HD9.out.u.cell 1
                  have u2 := HD9.out.u.cell 2
                  simp only [List.getElem?_toArray, List.getElem?_cons_zero, List.getElem?_cons_succ] at z0 z1 z2 u0 u1 u2
                  have HE := Lib.hid (dc_end HD9.out (by omega) (by omega))
                  obtain ⟨q0, q1, q2⟩ := dc_cells HD9.out
                  go_wp2_with fail
                  go_region
                  go_wp2
                  exact bodyPost_ret (v := .tuple #[.slice (some ⟨ga', 0, none⟩) n' cap', (.slice (some ⟨gn, 0, none⟩) (i + 1) capn), unitB s m x]) (by simp (maxDischargeDepth := 6) [results, Tryd.results17, go_sem, unitB, q0, q1, q2]) rfl HE.out
end Go.Proofs.YtldcciipicnooaaDoor
