/- The text of an expression is read as this expression. No program in sight. -/
import Derived.Test.YtjgjgjkffoagoaaDoorTreeC
namespace Go.Proofs.YtjgjgjkffoagoaaDoor
open Go.RowKit
open Go.Lib (itoa decDigits nDigits nDigits_le20 itoa_length_le)
set_option maxRecDepth 100000
set_option maxHeartbeats 1000000
set_option linter.unusedVariables false
set_option linter.unusedSimpArgs false

theorem skip_here (A : List UInt8) {B : List UInt8} (h : skipL B = 0) : skip (A ++ B) A.length = A.length := by rw [skip_app, h, Nat.add_zero]
theorem NoSp.zero {B : List UInt8} (h : NoSp B) (C : List UInt8) : _root_.Go.Proofs.YtjgjgjkffoagoaaDoor.skipL (B ++ C) = 0 := h.skipL C
theorem stg_pos (k : Int) : 1 ≤ stg k ∧ stg k ≤ 5 := by unfold stg; repeat (first | omega | split)
theorem str_pos (t : Ex) : 1 ≤ t.str ∧ t.str ≤ 5 := stg_pos _
theorem Txt_zero (t : Ex) : Txt 0 t = t.txt := by
  unfold Txt ins
  rw [if_neg (by have := (str_pos t).1; omega)]
theorem Txt_open {n : Nat} {t : Ex} (h : n + 1 ≤ t.str) : Txt n t = t.txt := by
  unfold Txt ins
  rw [if_neg (by omega)]
theorem tail_num {post : List UInt8} (h : Tail post) : ∀ c, post.head? = some c → isFig c = false ∧ c.toNat ≠ 112 := fun c hc => by
  rcases h c hc with rfl | rfl
  · exact ⟨rfl, by decide⟩
  · exact ⟨rfl, by decide⟩
/-- In parentheses. -/
theorem PF.paren {t : Ex} (h : PC 0 t) (hn : NoSp t.txt) (hs : t.str < 4) : PF t := by
  intro A post out i hi ht
  have e0 : Txt 3 t = 40 :: (t.txt ++ [41]) := by unfold Txt ins; rw [if_pos (by omega)]
  have e1 : A ++ (Txt 3 t ++ post) = A ++ (40 :: (t.txt ++ 41 :: post)) := by rw [e0]; simp
  have e2 : A ++ (40 :: (t.txt ++ 41 :: post)) = (A ++ [40]) ++ (Txt 0 t ++ (41 :: post)) := by rw [Txt_zero]; simp
  have e3 : (A ++ [40]) ++ (Txt 0 t ++ (41 :: post)) = ((A ++ [40]) ++ Txt 0 t) ++ (41 :: post) := by simp
  have hl : (A ++ [40] : List UInt8).length = A.length + 1 := by simp
  rw [e1] at hi ⊢
  obtain ⟨i', h1, h2⟩ := h (A ++ [40]) (41 :: post) out (A.length + 1) (by rw [← hl]; exact skip_here _ (by rw [Txt_zero]; exact hn.zero _)) (tail_shut post) (stop_shut 0 post)
  have h3 : skip ((A ++ [40]) ++ (Txt 0 t ++ (41 :: post))) i' = ((A ++ [40]) ++ Txt 0 t).length := by
    rw [h2, e3]
    exact skip_here _ rfl
  have h4 : stands ((A ++ [40]) ++ (Txt 0 t ++ (41 :: post))) i' [41] = true := by
    rw [e3] at h3 ⊢
    rw [stands_app h3]
    exact hp_one 41 post
  rw [← e2] at h1 h3 h4
  refine ⟨_, fac_open hi h1 h4, ?_⟩
  rw [h3]
  congr 1
  rw [e0, Txt_zero]; simp; omega
theorem PC.all_low {t : Ex} (hn : NoSp t.txt) (k : Nat) (hk : k ≤ 2) (hs : t.str = k + 1) (h : PC k t) : ∀ n, n ≤ 3 → PC n t := by
  intro n hn3
  have h0 := PC.down (k := k) (by omega) (by omega) h
  rcases Nat.lt_or_ge n t.str with h1 | h1
  · exact h0 n (by omega)
  · exact PC.up (PC.of_PF (PF.paren (h0 0 (by omega)) hn (by omega))) n h1 hn3
theorem PC.all_high {t : Ex} (hs : 4 ≤ t.str) (h : PF t) : ∀ n, n ≤ 3 → PC n t := PC.down (Nat.le_refl 3) hs (PC.of_PF h)
theorem PF.of_all {t : Ex} (hn : NoSp t.txt) (h : ∀ n, n ≤ 3 → PC n t) (h' : 4 ≤ t.str → PF t) : PF t := by
  rcases Nat.lt_or_ge t.str 4 with h1 | h1
  · exact PF.paren (h 0 (by omega)) hn h1
  · exact h' h1
/-- A sign ahead. -/
theorem PF.sign {a : Ex} (c : UInt8) (K : Int) (hc : (c = 43 ∧ K = 3) ∨ (c = 45 ∧ K = 4)) (ha : PF a) (hna : NoSp a.txt) (A post : List UInt8) (out : List Nd) (i : Nat) (hi : skip (A ++ (c :: (Txt 3 a ++ post))) i = A.length) (ht : Tail post) :
    ∃ i', Pr (A ++ (c :: (Txt 3 a ++ post))) .fac i out (some (i', out ++ (a.flat ++ [nd K]))) ∧ skip (A ++ (c :: (Txt 3 a ++ post))) i' = skip (A ++ (c :: (Txt 3 a ++ post))) (A ++ (c :: Txt 3 a)).length := by
  have e2 : A ++ (c :: (Txt 3 a ++ post)) = (A ++ [c]) ++ (Txt 3 a ++ post) := by simp
  have hl : (A ++ [c] : List UInt8).length = A.length + 1 := by simp
  have hn3 : NoSp (Txt 3 a) := ins_noSp hna
  obtain ⟨i', h1, h2⟩ := ha (A ++ [c]) post out (A.length + 1) (by rw [← hl]; exact skip_here _ (hn3.zero _)) ht
  rw [← e2] at h1 h2
  refine ⟨i', ?_, by rw [h2]; congr 1; simp⟩
  rw [← List.append_assoc]
  rcases hc with ⟨rfl, rfl⟩ | ⟨rfl, rfl⟩
  · exact fac_plus hi h1
  · exact fac_minus hi h1
/-- Within the parentheses of a word. -/
theorem word_in {a : Ex} (K : Int) (ha : PC 0 a) (hna : NoSp a.txt) (B post : List UInt8) (out : List Nd) :
    ∃ i', Pr (B ++ (40 :: (a.txt ++ 41 :: post))) (.word K) B.length out (some (i', out ++ (a.flat ++ [nd K]))) ∧ i' = B.length + 1 + a.txt.length + 1 := by
  have e2 : B ++ (40 :: (a.txt ++ 41 :: post)) = (B ++ [40]) ++ (Txt 0 a ++ (41 :: post)) := by rw [Txt_zero]; simp
  have e3 : (B ++ [40]) ++ (Txt 0 a ++ (41 :: post)) = ((B ++ [40]) ++ Txt 0 a) ++ (41 :: post) := by simp
  have hl : (B ++ [40] : List UInt8).length = B.length + 1 := by simp
  obtain ⟨i', h1, h2⟩ := ha (B ++ [40]) (41 :: post) out (B.length + 1) (by rw [← hl]; exact skip_here _ (by rw [Txt_zero]; exact hna.zero _)) (tail_shut post) (stop_shut 0 post)
  have h3 : skip ((B ++ [40]) ++ (Txt 0 a ++ (41 :: post))) i' = ((B ++ [40]) ++ Txt 0 a).length := by
    rw [h2, e3]
    exact skip_here _ rfl
  have h4 : stands ((B ++ [40]) ++ (Txt 0 a ++ (41 :: post))) i' [41] = true := by
    rw [e3] at h3 ⊢
    rw [stands_app h3]
    exact hp_one 41 post
  rw [← e2] at h1 h3 h4
  have h5 : skip (B ++ (40 :: (a.txt ++ 41 :: post))) B.length = B.length := skip_here _ rfl
  refine ⟨skip (B ++ (40 :: (a.txt ++ 41 :: post))) i' + 1, ?_, ?_⟩
  · rw [← List.append_assoc]
    exact word_open (by rw [stands_app h5]; exact hp_one 40 _) (by rw [h5]; exact h1) h4
  · rw [h3, Txt_zero]; simp; omega
theorem PF.conj {a : Ex} (K : Int) (W : List UInt8) (hW : (K = 5 ∧ W = [99, 111, 110, 106]) ∨ (K = 6 ∧ W = [114, 101]) ∨ (K = 7 ∧ W = [105, 109])) (ha : PC 0 a) (hna : NoSp a.txt) (A post : List UInt8) (out : List Nd) (i : Nat) (hi : skip (A ++ (W ++ (40 :: (a.txt ++ 41 :: post)))) i = A.length) :
    Pr (A ++ (W ++ (40 :: (a.txt ++ 41 :: post)))) .fac i out (some (A.length + W.length + 1 + a.txt.length + 1, out ++ (a.flat ++ [nd K]))) := by
  obtain ⟨i', h1, h2⟩ := word_in K ha hna (A ++ W) post out
  subst h2
  have e : (A ++ W) ++ (40 :: (a.txt ++ 41 :: post)) = A ++ (W ++ (40 :: (a.txt ++ 41 :: post))) := by simp
  rw [e, List.length_append] at h1
  rcases hW with ⟨rfl, rfl⟩ | ⟨rfl, rfl⟩ | ⟨rfl, rfl⟩
  · exact fac_conj hi h1
  · exact fac_re hi h1
  · exact fac_im hi h1
/-- The operator of a kind. -/
theorem op_of {k : Int} (hk : 8 ≤ k ∧ k ≤ 12) : ∃ (n : Nat) (c : UInt8), n ≤ 2 ∧ stg k = n + 1 ∧ opT k = [32, c, 32] ∧ c ≠ 32 ∧ opK n (some c) = some k ∧ ∀ m, n + 1 ≤ m → m ≤ 2 → opK m (some c) = none := by
  have h : k = 8 ∨ k = 9 ∨ k = 10 ∨ k = 11 ∨ k = 12 := by omega
  rcases h with rfl | rfl | rfl | rfl | rfl
  · exact ⟨1, 43, by decide, rfl, rfl, by decide, rfl, fun m h1 h2 => by have : m = 2 := by omega
                                                                         subst this; rfl⟩
  · exact ⟨1, 45, by decide, rfl, rfl, by decide, rfl, fun m h1 h2 => by have : m = 2 := by omega
                                                                         subst this; rfl⟩
  · exact ⟨2, 42, by decide, rfl, rfl, by decide, rfl, fun m h1 h2 => by omega⟩
  · exact ⟨2, 47, by decide, rfl, rfl, by decide, rfl, fun m h1 h2 => by omega⟩
  · exact ⟨0, 61, by decide, rfl, rfl, by decide, rfl, fun m h1 h2 => by
      have : m = 1 ∨ m = 2 := by omega
      rcases this with rfl | rfl <;> rfl⟩
/-- Two operands. -/
theorem PD.two {x : Nd} {a b : Ex} {n : Nat} {c : UInt8} (hn : n ≤ 2) (hsg : stg x.kind = n + 1) (hop : opT x.kind = [32, c, 32]) (hc : c ≠ 32) (hK : opK n (some c) = some x.kind) (hup : ∀ m, n + 1 ≤ m → m ≤ 2 → opK m (some c) = none) (hx : x = nd x.kind)
    (ha : PD n a) (hb : PC (n + 1) b) (hna : NoSp a.txt) (hnb : NoSp b.txt) : PD n (.two x a b) := by
  intro A post out i
  have hst : (Ex.two x a b).str = n + 1 := hsg
  have e0 : Txt n (.two x a b) = Txt n a ++ ([32, c, 32] ++ Txt (n + 1) b) := by
    rw [Txt_open (by rw [hst]; exact Nat.le_refl _)]
    show ins (stg x.kind) a.txt a.str ++ (opT x.kind ++ ins (stg x.kind + 1) b.txt b.str) = _
    rw [hop, hsg]; rfl
  obtain ⟨S, hS⟩ : ∃ S, S = A ++ (Txt n (.two x a b) ++ post) := ⟨_, rfl⟩
  have e1 : S = A ++ (Txt n a ++ (32 :: c :: 32 :: (Txt (n + 1) b ++ post))) := by rw [hS, e0]; simp
  have e2 : S = (A ++ Txt n a) ++ (32 :: c :: 32 :: (Txt (n + 1) b ++ post)) := by rw [e1]; simp
  have e3 : S = (A ++ Txt n a ++ [32, c, 32]) ++ (Txt (n + 1) b ++ post) := by rw [e1]; simp
  rw [← hS]
  intro hi ht hst2
  have hsk : skipL (32 :: c :: 32 :: (Txt (n + 1) b ++ post)) = 1 := by
    show (if (32 : UInt8) = 32 then (if c = 32 then _ else 0) + 1 else 0) = 1
    rw [if_pos rfl, if_neg hc]
  have hnx : nxt (32 :: c :: 32 :: (Txt (n + 1) b ++ post)) = some c := by unfold nxt; rw [hsk]; rfl
  obtain ⟨ia, h1, h2⟩ := ha A (32 :: c :: 32 :: (Txt (n + 1) b ++ post)) out i (by rw [← e1]; exact hi) (fun d hd => .inl (Option.some.inj hd).symm) (fun m h1 h2 => by rw [hnx]; exact hup m h1 h2)
  rw [← e1] at h1 h2
  have h3 : skip S ia = (A ++ Txt n a).length + 1 := by
    rw [h1, e2, skip_app, hsk]
  have h4 : S[skip S ia]? = some c := by
    rw [h3, e2, get_app]; rfl
  have hlen : (A ++ Txt n a ++ [32, c, 32] : List UInt8).length = (A ++ Txt n a).length + 3 := by rw [List.length_append]; rfl
  have h5 : skip S (skip S ia + 1) = (A ++ Txt n a ++ [32, c, 32]).length := by
    have e4 : S = (A ++ Txt n a ++ [32, c]) ++ (32 :: (Txt (n + 1) b ++ post)) := by rw [e1]; simp
    have hl2 : (A ++ Txt n a ++ [32, c] : List UInt8).length = (A ++ Txt n a).length + 2 := by rw [List.length_append]; rfl
    rw [h3, show (A ++ Txt n a).length + 1 + 1 = (A ++ Txt n a ++ [32, c] : List UInt8).length by rw [hl2], e4, skip_app, hlen, hl2]
    have hz : skipL (Txt (n + 1) b ++ post) = 0 := NoSp.zero (ins_noSp hnb) post
    show _ + (if (32 : UInt8) = 32 then skipL (Txt (n + 1) b ++ post) + 1 else 0) = _
    rw [if_pos rfl, hz]
  obtain ⟨ib, g1, g2⟩ := hb (A ++ Txt n a ++ [32, c, 32]) post (out ++ a.flat) (skip S ia + 1) (by rw [← e3]; exact h5) ht hst2
  rw [← e3] at g1 g2
  refine ⟨ib, ?_, fun r hr => h2 r (Pr.loop_op (by rw [h4]; exact hK) g1 ?_)⟩
  · rw [g2]
    congr 1
    rw [e0]; simp
  · have e5 : out ++ a.flat ++ b.flat ++ [nd x.kind] = out ++ (Ex.two x a b).flat := by
      show _ = out ++ (a.flat ++ b.flat ++ [x])
      rw [← hx]; simp
    rw [e5]
    exact hr
/-- A leaf. -/
theorem TxR.head {y : Nat} {l : List UInt8} (h : TxR y l) : ∃ c B, l = c :: B ∧ 48 ≤ c.toNat ∧ c.toNat ≤ 57 := by
  rcases h with ⟨_, h2⟩ | ⟨m, e, _, _, hl⟩
  · exact ⟨48, [], h2, by decide, by decide⟩
  · have hi : itoa (m : Int) = decDigits m := by rw [itoa_nat _ (by omega)]; simp
    obtain ⟨c, D, hc, hf⟩ := dec_head m
    have := fig_nat hf
    exact ⟨c, D ++ 112 :: itoa e, by rw [hl, hi, hc]; rfl, this.1, this.2⟩
theorem leaf_noSp {x : Nd} {t : List UInt8} (h : LeafOk x t) : NoSp t := by
  rcases h with ⟨k, _, _, rfl⟩ | ⟨y, l, _, hl, hor⟩
  · exact ⟨115, _, rfl, by decide⟩
  · obtain ⟨c, B, rfl, h1, h2⟩ := hl.head
    have hc : c ≠ 32 := fun hc => by
      rw [hc] at h1
      exact absurd h1 (by decide)
    rcases hor with ⟨_, rfl⟩ | ⟨_, _, rfl⟩
    · exact ⟨c, B, rfl, hc⟩
    · exact ⟨c, B ++ [105], rfl, hc⟩
theorem leaf_str {x : Nd} {t : List UInt8} (h : LeafOk x t) : (Ex.leaf x t).str = 5 := by
  rcases h with ⟨k, _, rfl, _⟩ | ⟨y, l, _, _, ⟨rfl, _⟩ | ⟨_, rfl, _⟩⟩ <;> rfl
theorem PF.leaf {x : Nd} {t : List UInt8} (h : LeafOk x t) : PF (.leaf x t) := by
  have hs := leaf_str h
  intro A post out i
  have e0 : Txt 3 (.leaf x t) = t := Txt_open (by rw [hs]; decide)
  rw [e0]
  intro hi ht
  rcases h with ⟨k, hk, rfl, rfl⟩ | ⟨y, l, hy, hl, hor⟩
  · have hf : isFig (UInt8.ofNat (48 + k)) = true ∧ (UInt8.ofNat (48 + k)).toNat = 48 + k := by
      have : (UInt8.ofNat (48 + k)).toNat = 48 + k := by rw [UInt8.toNat_ofNat']; omega
      exact ⟨by unfold isFig; rw [this]; simp; omega, this⟩
    have h1 := fac_slot (A := A) (B := post) (out := out) (i := i) _ hf.1 hi
    rw [hf.2] at h1
    refine ⟨A.length + 2, ?_, by congr 1; simp⟩
    rw [show (((48 + k : Nat) : Int)) - 48 = (k : Int) by omega] at h1
    exact h1
  · obtain ⟨c, B, hcB, h1, h2⟩ := hl.head
    rcases hor with ⟨rfl, rfl⟩ | ⟨h0, rfl, rfl⟩
    · have hnum := num_read hy hl A post out (tail_num ht)
      rw [if_neg (fun h => by rcases ht 105 h.2 with h3 | h3 <;> exact absurd h3 (by decide))] at hnum
      have hf := fac_num (A := A) (B := B ++ post) (out := out) (i := i) c ⟨h1, h2⟩ (by rw [hcB] at hi; exact hi)
      have e1 : A ++ (c :: (B ++ post)) = A ++ (t ++ post) := by rw [hcB]; rfl
      rw [e1, hnum] at hf
      exact ⟨_, hf, by rw [List.length_append]⟩
    · have hnum := num_read hy hl A (105 :: post) out (fun d hd => by have := Option.some.inj hd; rw [← this]; exact ⟨rfl, by decide⟩)
      rw [if_pos ⟨h0, rfl⟩] at hnum
      have e2 : A ++ (l ++ [105] ++ post) = A ++ (l ++ 105 :: post) := by simp
      rw [e2] at hi ⊢
      have hf := fac_num (A := A) (B := B ++ 105 :: post) (out := out) (i := i) c ⟨h1, h2⟩ (by rw [hcB] at hi; exact hi)
      have e1 : A ++ (c :: (B ++ 105 :: post)) = A ++ (l ++ 105 :: post) := by rw [hcB]; rfl
      rw [e1, hnum] at hf
      exact ⟨_, hf, by congr 1; simp; omega⟩
/-- All trees. -/
theorem tree_all : ∀ t : Ex, t.Val → (∀ n, n ≤ 3 → PC n t) ∧ PF t ∧ NoSp t.txt ∧ ∀ n, n ≤ 2 → PD n t
  | .leaf x t, hv => ⟨PC.all_high (by rw [leaf_str hv]; decide) (PF.leaf hv), PF.leaf hv, leaf_noSp hv, fun n hn => PD.of_PC hn (by rw [leaf_str hv]; omega) (PC.all_high (by rw [leaf_str hv]; decide) (PF.leaf hv) (n + 1) (by omega))⟩
  | .one x a, hv => by
    obtain ⟨hk, hx, ha⟩ := hv
    obtain ⟨h1, h2, h3, _⟩ := tree_all a ha
    have hk' : x.kind = 3 ∨ x.kind = 4 ∨ x.kind = 5 ∨ x.kind = 6 ∨ x.kind = 7 := by omega
    have hst : 4 ≤ (Ex.one x a).str := by
      show 4 ≤ stg x.kind
      rcases hk' with h | h | h | h | h <;> rw [h] <;> decide
    have hfl : (Ex.one x a).flat = a.flat ++ [nd x.kind] := by
      show a.flat ++ [x] = _
      rw [← hx]
    have e0 : Txt 3 (.one x a) = (Ex.one x a).txt := Txt_open hst
    have key : PF (.one x a) ∧ NoSp (Ex.one x a).txt := by
      rcases hk' with h | h | h | h | h
      · have ht : (Ex.one x a).txt = 43 :: Txt 3 a := by
          show (if x.kind = 3 then 43 :: ins 4 a.txt a.str else _) = _
          rw [if_pos h]; rfl
        refine ⟨fun A post out i => ?_, ⟨43, _, ht, by decide⟩⟩
        rw [e0, ht, hfl, h]
        intro hi hta
        exact PF.sign 43 3 (.inl ⟨rfl, rfl⟩) h2 h3 A post out i hi hta
      · have ht : (Ex.one x a).txt = 45 :: Txt 3 a := by
          show (if x.kind = 3 then _ else if x.kind = 4 then 45 :: ins 4 a.txt a.str else _) = _
          rw [if_neg (by omega), if_pos h]; rfl
        refine ⟨fun A post out i => ?_, ⟨45, _, ht, by decide⟩⟩
        rw [e0, ht, hfl, h]
        intro hi hta
        exact PF.sign 45 4 (.inr ⟨rfl, rfl⟩) h2 h3 A post out i hi hta
      all_goals
        obtain ⟨W, hW, hw⟩ : ∃ W, wordT x.kind = W ++ [40] ∧ ((x.kind = 5 ∧ W = [99, 111, 110, 106]) ∨ (x.kind = 6 ∧ W = [114, 101]) ∨ (x.kind = 7 ∧ W = [105, 109])) := by
          rw [h]
          first
            | exact ⟨[99, 111, 110, 106], rfl, .inl ⟨rfl, rfl⟩⟩
            | exact ⟨[114, 101], rfl, .inr (.inl ⟨rfl, rfl⟩)⟩
            | exact ⟨[105, 109], rfl, .inr (.inr ⟨rfl, rfl⟩)⟩
        have ht : (Ex.one x a).txt = W ++ (40 :: (a.txt ++ [41])) := by
          show (if x.kind = 3 then _ else if x.kind = 4 then _ else wordT x.kind ++ (a.txt ++ [41])) = _
          rw [if_neg (by omega), if_neg (by omega), hW]; simp
        refine ⟨fun A post out i => ?_, ?_⟩
        · rw [e0, ht, hfl]
          have e1 : A ++ (W ++ (40 :: (a.txt ++ [41])) ++ post) = A ++ (W ++ (40 :: (a.txt ++ 41 :: post))) := by simp
          rw [e1]
          intro hi hta
          exact ⟨_, PF.conj x.kind W hw (h1 0 (by omega)) h3 A post out i hi, by congr 1; simp; omega⟩
        · rcases hw with ⟨_, rfl⟩ | ⟨_, rfl⟩ | ⟨_, rfl⟩
          · exact ⟨99, _, ht, by decide⟩
          · exact ⟨114, _, ht, by decide⟩
          · exact ⟨105, _, ht, by decide⟩
    exact ⟨PC.all_high hst key.1, key.1, key.2, fun n hn => PD.of_PC hn (by omega) (PC.all_high hst key.1 (n + 1) (by omega))⟩
  | .two x a b, hv => by
    obtain ⟨hk, hx, ha, hb⟩ := hv
    obtain ⟨a1, a2, a3, a4⟩ := tree_all a ha
    obtain ⟨b1, b2, b3, _⟩ := tree_all b hb
    obtain ⟨n, c, hn, hsg, hop, hc, hK, hup⟩ := op_of hk
    have hno : NoSp (Ex.two x a b).txt := by
      obtain ⟨d, l, hd, hd2⟩ := ins_noSp (n := stg x.kind) (b := a.str) a3
      exact ⟨d, l ++ (opT x.kind ++ ins (stg x.kind + 1) b.txt b.str), by show ins _ _ _ ++ _ = _; rw [hd]; rfl, hd2⟩
    have hd := PD.two hn hsg hop hc hK hup hx (a4 n hn) (b1 (n + 1) (by omega)) a3 b3
    have hp := PC.all_low hno n hn hsg (PC.of_PD hn hd)
    exact ⟨hp, PF.of_all hno hp (fun h => by have : (Ex.two x a b).str = n + 1 := hsg; omega), hno, fun m hm => by
      by_cases h : m = n
      · subst h; exact hd
      · exact PD.of_PC hm (by have : (Ex.two x a b).str = n + 1 := hsg; omega) (hp (m + 1) (by omega))⟩
/-- The text of an expression, alone, in parentheses, with a space on each side: read as its nodes. -/
theorem read_back {t : Ex} (hv : t.Val) (h60 : t.flat.length ≤ 60) : ∀ s, (s = t.txt ∨ s = 40 :: (t.txt ++ [41]) ∨ s = 32 :: (t.txt ++ [32])) → ∃ F r, prs s F (.lev 0) 0 [] = some r ∧ r.isSome = true ∧ ∀ i o, r = some (i, o) → o = t.flat ∧ skip s i = s.length := by
  obtain ⟨h1, h2, h3, _⟩ := tree_all t hv
  intro s hs
  have key : ∀ i, Pr s (.lev 0) 0 [] (some (i, t.flat)) → skip s i = s.length → ∃ F r, prs s F (.lev 0) 0 [] = some r ∧ r.isSome = true ∧ ∀ i o, r = some (i, o) → o = t.flat ∧ skip s i = s.length := by
    rintro i ⟨F, hF⟩ hsk
    refine ⟨F, _, hF, rfl, fun i' o' h => ?_⟩
    have := Prod.mk.inj (Option.some.inj h)
    exact ⟨this.2.symm, this.1 ▸ hsk⟩
  have hnil : Tail [] := fun c h => by cases h
  have hstop : Stop 0 [] := fun m _ h2 => by
    match m, h2 with
    | 0, _ => rfl
    | 1, _ => rfl
    | 2, _ => rfl
  rcases hs with rfl | rfl | rfl
  · obtain ⟨i, g1, g2⟩ := h1 0 (by omega) [] [] [] 0 (by rw [Txt_zero]; exact skip_here [] (h3.zero _)) hnil hstop
    rw [Txt_zero] at g1 g2
    simp only [List.nil_append, List.append_nil] at g1 g2
    exact key i g1 (by rw [g2]; exact skip_end (Nat.le_refl _))
  · -- in parentheses
    have e2 : (40 :: (t.txt ++ [41]) : List UInt8) = [40] ++ (Txt 0 t ++ [41]) := by rw [Txt_zero]; rfl
    have e3 : ([40] : List UInt8) ++ (Txt 0 t ++ [41]) = ([40] ++ Txt 0 t) ++ [41] := by simp
    obtain ⟨i, g1, g2⟩ := h1 0 (by omega) [40] [41] [] 1 (by rw [Txt_zero]; exact skip_here [40] (h3.zero _)) (tail_shut []) (stop_shut 0 [])
    have g3 : skip ([40] ++ (Txt 0 t ++ [41])) i = ([40] ++ Txt 0 t).length := by
      rw [g2, e3]
      exact skip_here _ rfl
    have g4 : stands ([40] ++ (Txt 0 t ++ [41])) i [41] = true := by
      rw [e3] at g3 ⊢
      rw [stands_app g3]
      exact hp_one 41 []
    rw [← e2] at g1 g3 g4
    have hf : Pr (40 :: (t.txt ++ [41])) .fac 0 [] (some (skip (40 :: (t.txt ++ [41])) i + 1, t.flat)) := fac_open (A := []) (B := t.txt ++ [41]) (i := 0) rfl g1 g4
    have hend : skip (40 :: (t.txt ++ [41])) i + 1 = (40 :: (t.txt ++ [41])).length := by
      rw [g3, Txt_zero]; simp
    rw [hend] at hf
    have hno : ∀ n, n ≤ 2 → opK n (40 :: (t.txt ++ [41]))[skip (40 :: (t.txt ++ [41])) (40 :: (t.txt ++ [41])).length]? = none := fun n hn => by
      rw [skip_end (Nat.le_refl _), List.getElem?_eq_none (Nat.le_refl _)]
      match n, hn with
      | 0, _ => rfl
      | 1, _ => rfl
      | 2, _ => rfl
    have hsk : skip (40 :: (t.txt ++ [41])) (40 :: (t.txt ++ [41])).length = (40 :: (t.txt ++ [41])).length := skip_end (Nat.le_refl _)
    have l2 := Pr.lev (n := 2) (by decide) hf.lev3 (Pr.loop_end (hno 2 (by omega)))
    rw [hsk] at l2
    have l1 := Pr.lev (n := 1) (by decide) l2 (Pr.loop_end (hno 1 (by omega)))
    rw [hsk] at l1
    have l0 := Pr.lev (n := 0) (by decide) l1 (Pr.loop_end (hno 0 (by omega)))
    rw [hsk] at l0
    exact key _ l0 hsk
  · have e2 : (32 :: (t.txt ++ [32]) : List UInt8) = [32] ++ (Txt 0 t ++ [32]) := by rw [Txt_zero]; rfl
    have hst : Stop 0 [32] := fun m _ h2 => by
      match m, h2 with
      | 0, _ => rfl
      | 1, _ => rfl
      | 2, _ => rfl
    obtain ⟨i, g1, g2⟩ := h1 0 (by omega) [32] [32] [] 0 (by
      rw [Txt_zero]
      obtain ⟨c, l, hc, hne⟩ := h3
      show 0 + skipL (32 :: (t.txt ++ [32])) = 1
      show 0 + (if (32 : UInt8) = 32 then skipL (t.txt ++ [32]) + 1 else 0) = 1
      rw [if_pos rfl, NoSp.zero ⟨c, l, hc, hne⟩ [32]]) (fun c h => .inl (Option.some.inj h).symm) hst
    rw [← e2] at g1 g2
    refine key i g1 ?_
    rw [g2, e2, show [32] ++ (Txt 0 t ++ [32]) = ([32] ++ Txt 0 t) ++ [32] by simp, skip_app]
    simp
    rfl
end Go.Proofs.YtjgjgjkffoagoaaDoor
