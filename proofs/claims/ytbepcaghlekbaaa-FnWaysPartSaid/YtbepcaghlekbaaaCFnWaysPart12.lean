/- The law FnWaysPart holds for all that it draws. -/
import Derived.Laws.BitsLemmas
import Derived.Test.YtbepcaghlekbaaaCFnWaysPart1
import Derived.Test.YtbepcaghlekbaaaCFnWaysPart7
import Derived.Test.YtbepcaghlekbaaaCFnWaysPart8
import Derived.Test.YtbepcaghlekbaaaCFnWaysPart9
import Derived.Test.YtbepcaghlekbaaaCFnWaysPart10
import Derived.Test.YtbepcaghlekbaaaCFnWaysPart11
namespace Go.Proofs.Ytbepcaghlekbaaa.Q
open Go.RowKit Go.Proofs.YtbepcaghlekbaaaW.PrintWords Go.Proofs.YtbepcaghlekbaaaW.PrintLast Go.Proofs.YtbepcaghlekbaaaW.PrintMore
open Go.Proofs.Ytbepcaghlekbaaa.Pl
set_option linter.unusedVariables false
set_option linter.unusedSimpArgs false
theorem P_bound (f : Nat → Bool) (k : Nat) {n : Nat} (h : n ≤ 60) : P f k n ≤ 1152921504606846976 := Nat.le_trans (P_le f k n) (W_le_bound f h)
/-- The ways to n with 0, 1 .. m - 1 numbers. -/
def rows (f : Nat → Bool) (n m : Nat) : List Int := (List.range m).map fun k => ((P f k n : Nat) : Int)
theorem rows_len (f : Nat → Bool) (n m : Nat) : (rows f n m).length = m := by simp [rows]
theorem rows_succ (f : Nat → Bool) (n m : Nat) : rows f n (m + 1) = rows f n m ++ [((P f m n : Nat) : Int)] := by simp [rows, List.range_succ]
theorem rows_get (f : Nat → Bool) (n : Nat) {m k : Nat} (h : k < m) : (rows f n m).getD k 0 = ((P f k n : Nat) : Int) := by simp [rows, List.getD, h]
/-- The part of P f (k + 1) i that the numbers up to q make. -/
def pP (f : Nat → Bool) (k i q : Nat) : Nat := S (fun y => if f y = true ∧ y ≤ i then P f k (i - y) else 0) q
theorem pP_far (f : Nat → Bool) (k i q : Nat) (h : i ≤ q) : pP f k i q = P f (k + 1) i := by
  unfold pP
  rw [S_more (m := i) h (fun y a b => by rw [if_neg (by omega)])]
  simp only [P]
  exact S_congr fun y a b => by by_cases c : f y = true <;> simp [c, b]
theorem pP_le (f : Nat → Bool) (k i q : Nat) : pP f k i q ≤ P f (k + 1) i := by
  rw [← pP_far f k i (q + i) (by omega)]
  exact S_le_more _ q i
theorem pP_succ (f : Nat → Bool) (k i q : Nat) : pP f k i (q + 1) = pP f k i q + if f (q + 1) = true ∧ q + 1 ≤ i then P f k (i - (q + 1)) else 0 := by
  unfold pP; simp only [S]

theorem parts_l2 (f : Nat → Bool) (n : Nat) (hn : n ≤ 60) (k : Nat) (w T : List Int) (hw : TellsI w (fun j => ((P f k j : Nat) : Int)) (n + 1)) (m p : Nat) (i : Nat) (hi : i ≤ n) (res : List Int × Bool)
    (hend : ∀ l : List Int, l.length = n + 1 → (∀ j, j ≤ n → l.getD j 0 = if j < i + 1 then ((P f (k + 1) j : Nat) : Int) else 0) → Ev (fun k => impl_parts.l1 k n (stp f n) w T l m p ((n + 1 : Nat) : Int) ((i + 1 : Nat) : Int)) res) (d : Nat) :
    ∀ (q : Nat) (l : List Int), q + d = n → l.length = n + 1 → (∀ j, j ≤ n → l.getD j 0 = if j < i then ((P f (k + 1) j : Nat) : Int) else if j = i then ((pP f k i q : Nat) : Int) else 0) →
      Ev (fun k => impl_parts.l2 k n (stp f n) w T l (i : Nat) m p ((n + 1 : Nat) : Int) (i : Nat) (stp f n) (((stp f n).length : Nat) : Int) (((stp f q).length : Nat) : Int)) res := by
  have hwl := hw.len
  induction d with
  | zero =>
    intro q l hq hl ha
    obtain rfl : q = n := by omega
    refine Ev.step (fun k => ?_) (hend l hl fun j hj => by
      rw [ha j hj, pP_far f k i q hi]
      by_cases c : j < i
      · rw [if_pos c, if_pos (by omega)]
      · rw [if_neg c]
        by_cases c2 : j = i
        · subst c2; rw [if_pos rfl, if_pos (by omega)]
        · rw [if_neg c2, if_neg (by omega)])
    simp only [impl_parts.l2]
    rw [if_neg (by omega), wr1 (by omega)]
  | succ d ih =>
    intro q l hq hl ha
    by_cases c : f (q + 1) = true
    · obtain ⟨g1, g2⟩ := stp_get (n := n) c (by omega)
      have hsl := stp_len_le f n
      have hlen := stp_len_yes c
      by_cases c2 : q + 1 ≤ i
      · have hW := P_bound f k (n := i - (q + 1)) (by omega)
        have hW2 := P_bound f (k + 1) (n := i) (by omega)
        have hp := pP_le f k i q
        have e1 : w.getD (i - (q + 1)) 0 = ((P f k (i - (q + 1)) : Nat) : Int) := hw.get _ (by omega)
        have e2 : l.getD i 0 = ((pP f k i q : Nat) : Int) := by rw [ha i hi, if_neg (by omega), if_pos rfl]
        have k1 := ih (q + 1) (l.set i ((pP f k i (q + 1) : Nat) : Int)) (by omega) (by rw [List.length_set, hl]) (fun j hj => by
          by_cases cj : j = i
          · subst cj
            rw [getI_set_self _ _ _ (by omega), if_neg (by omega), if_pos rfl]
          · rw [getI_set_ne _ _ (fun h => cj h.symm), ha j hj, if_neg cj, if_neg cj])
        refine Ev.step (fun k => ?_) k1
        simp only [impl_parts.l2]
        rw [if_pos (by omega), if_pos (by omega), if_pos (by omega), rd_nat, g2, if_pos (by omega), if_pos (by omega), if_pos (by omega), wrs' (by omega) (by omega), if_pos (by omega), if_pos (by omega), rd_nat, rd_nat, e1, e2, wra (by omega), hlen, wr1 (by omega), Int.toNat_natCast, pP_succ, if_pos ⟨c, c2⟩]
      · have k1 := ih (q + 1) l (by omega) hl (fun j hj => by rw [ha j hj, pP_succ, if_neg (c := f (q + 1) = true ∧ q + 1 ≤ i) (fun h => c2 h.2)]; rfl)
        refine Ev.step (fun k => ?_) k1
        simp only [impl_parts.l2]
        rw [if_pos (by omega), if_pos (by omega), if_pos (by omega), rd_nat, g2, if_neg (by omega), hlen, wr1 (by omega)]
    · rw [← stp_len_no c]
      exact ih (q + 1) l (by omega) hl (fun j hj => by rw [ha j hj, pP_succ, if_neg (c := f (q + 1) = true ∧ q + 1 ≤ i) (fun h => c h.1)]; rfl)
theorem parts_l1 (f : Nat → Bool) (n : Nat) (hn : n ≤ 60) (k : Nat) (w T : List Int) (hT : T.length ≤ 1000) (hw : TellsI w (fun j => ((P f k j : Nat) : Int)) (n + 1)) (m p : Nat) (hp : p ≤ 1000) (res : List Int × Bool)
    (hend : ∀ l : List Int, TellsI l (fun j => ((P f (k + 1) j : Nat) : Int)) (n + 1) → Ev (fun q => impl_parts.l0 q n (stp f n) l (T ++ [((P f (k + 1) n : Nat) : Int)]) m ((p + 1 : Nat) : Int)) res) (d : Nat) :
    ∀ (i : Nat) (l : List Int), i + d = n + 1 → l.length = n + 1 → (∀ j, j ≤ n → l.getD j 0 = if j < i then ((P f (k + 1) j : Nat) : Int) else 0) →
      Ev (fun k => impl_parts.l1 k n (stp f n) w T l m p ((n + 1 : Nat) : Int) (i : Nat)) res := by
  induction d with
  | zero =>
    intro i l hi hl ha
    obtain rfl : i = n + 1 := by omega
    have e : l.getD n 0 = ((P f (k + 1) n : Nat) : Int) := by rw [ha n (by omega), if_pos (by omega)]
    refine Ev.step (fun k => ?_) (hend l ⟨hl, fun j hj => by rw [ha j (by omega), if_pos hj]⟩)
    simp only [impl_parts.l1]
    rw [if_neg (by omega), if_pos (by omega), if_pos (by omega), if_pos (by omega), rd_nat, e, wr1 (by omega)]
  | succ d ih =>
    intro i l hi hl ha
    refine Ev.step (fun k => ?_) (parts_l2 f n hn k w T hw m p i (by omega) res (fun l hl ha => ih (i + 1) l (by omega) hl ha) n 0 l (by omega) hl (fun j hj => by
      rw [ha j hj]
      by_cases c : j < i
      · rw [if_pos c, if_pos c]
      · rw [if_neg c, if_neg c]; split <;> rfl))
    simp only [impl_parts.l1]
    rw [if_pos (by omega)]
    rfl
theorem parts_l0 (f : Nat → Bool) (n : Nat) (hn : n ≤ 60) (m : Nat) (hm : m ≤ 60) (d : Nat) : ∀ (k : Nat) (w : List Int), k + d = m → TellsI w (fun j => ((P f k j : Nat) : Int)) (n + 1) →
    Ev (fun q => impl_parts.l0 q n (stp f n) w (rows f n (k + 1)) m (k : Nat)) (rows f n (m + 1), true) := by
  induction d with
  | zero =>
    intro k w hk hw
    obtain rfl : k = m := by omega
    refine Ev.end fun q => ?_
    simp only [impl_parts.l0]
    rw [if_neg (by omega)]
  | succ d ih =>
    intro k w hk hw
    have e : wrap64 ((n : Int) + 1) = ((n + 1 : Nat) : Int) := wr1 (by omega)
    refine Ev.step (fun q => ?_) (parts_l1 f n hn k w (rows f n (k + 1)) (by rw [rows_len]; omega) hw m k (by omega) _ (fun l hl => by rw [← rows_succ]; exact ih (k + 1) l (by omega) hl) (n + 1) 0 (List.replicate (n + 1) 0) (by omega) (by simp) (fun j hj => by rw [getI_rep, if_neg (by omega)]))
    simp only [impl_parts.l0, e, Int.toNat_natCast, Option.bind_some, List.length_replicate]
    rw [if_pos (by omega), if_pos (by omega), if_pos (by omega)]
    rfl
theorem ones_P (f : Nat → Bool) (n : Nat) : TellsI ((List.replicate (n + 1) (0 : Int)).set 0 1) (fun j => ((P f 0 j : Nat) : Int)) (n + 1) :=
  ⟨by simp, fun j hj => by rw [rep_one]; simp only [P]; split <;> rfl⟩
theorem parts_yes {s : ByteArray} {t r : List Bool} (h : IsSmall s t r) (n m : Nat) (hn : n ≤ 40) (hm : m ≤ 40) : Ev (fun k => impl_parts.f k s n m) (rows (hasB t r) n (m + 1), true) := by
  have e : wrap64 ((n : Int) + 1) = ((n + 1 : Nat) : Int) := wr1 (by omega)
  have o := (ones_P (hasB t r) n).get n (by omega)
  unfold impl_parts.f
  refine Ev.bind (steps_yes h n 40 (by omega) (by omega)) ?_
  simp only [if_true, e, if_pos (show (0 : Int) ≤ ((n + 1 : Nat) : Int) by omega), Int.toNat_natCast, if_pos (show n + 1 ≤ 35184372088832 by omega), Option.bind_some, List.length_replicate, if_pos (show (0 : Int) < ((n + 1 : Nat) : Int) by omega), if_pos (show (0 : Int) ≤ (n : Int) by omega), if_pos (show (n : Int) < ((n + 1 : Nat) : Int) by omega), rd_nat]
  have k1 := parts_l0 (hasB t r) n (by omega) m (by omega) m 0 _ (by omega) (ones_P _ n)
  rw [show rows (hasB t r) n (0 + 1) = [((List.replicate (n + 1) (0 : Int)).set 0 1).getD n 0] from by rw [o]; rfl] at k1
  exact k1
theorem parts_no {s : ByteArray} {n m : Int} (hs : NoSmall s ∨ ∃ t r, IsSmall s t r) (h : NoSmall s ∨ ¬ (0 ≤ n ∧ n ≤ 40)) : Ev (fun k => impl_parts.f k s n m) ([], false) := by
  unfold impl_parts.f
  refine Ev.bind (steps_no hs h) ?_
  simp only [Bool.false_eq_true, if_false]
  exact Ev.now _

def sP (f : Nat → Bool) (k i q j : Nat) : Nat := S (fun y => if f y = true ∧ y ≤ j ∧ (j - y < i ∨ (j - y = i ∧ y < q)) then P f k (j - y) else 0) j
theorem sP_le (f : Nat → Bool) (k i q j : Nat) : sP f k i q j ≤ P f (k + 1) j := by
  unfold sP; simp only [P]
  refine S_le fun y a b => ?_
  by_cases c : f y = true
  · rw [if_pos c]; split
    · exact Nat.le_refl _
    · exact Nat.zero_le _
  · rw [if_neg (fun h => c h.1), if_neg c]; exact Nat.le_refl _
theorem sP_start (f : Nat → Bool) (k j : Nat) : sP f k 0 1 j = 0 := S_zero fun y a b => by rw [if_neg (by omega)]
theorem sP_end (f : Nat → Bool) (k n j q : Nat) (h : j ≤ n) : sP f k (n + 1) q j = P f (k + 1) j := by
  unfold sP; simp only [P]
  refine S_congr fun y a b => ?_
  by_cases c : f y = true
  · rw [if_pos c, if_pos ⟨c, b, .inl (by omega)⟩]
  · rw [if_neg (fun h => c h.1), if_neg c]
theorem sP_next (f : Nat → Bool) (k n i q j : Nat) (h : j ≤ n) (hq : n < i + q) : sP f k i q j = sP f k (i + 1) 1 j := by
  unfold sP
  refine S_congr fun y a b => ?_
  by_cases c : f y = true ∧ y ≤ j ∧ (j - y < i ∨ (j - y = i ∧ y < q))
  · rw [if_pos c, if_pos ⟨c.1, c.2.1, .inl (by omega)⟩]
  · rw [if_neg c, if_neg (fun h => c ⟨h.1, h.2.1, by omega⟩)]
theorem sP_other (f : Nat → Bool) (k i q j : Nat) (h : j ≠ i + q) : sP f k i (q + 1) j = sP f k i q j := by
  unfold sP
  refine S_congr fun y a b => ?_
  by_cases c : f y = true ∧ y ≤ j ∧ (j - y < i ∨ (j - y = i ∧ y < q))
  · rw [if_pos c, if_pos ⟨c.1, c.2.1, by omega⟩]
  · rw [if_neg c, if_neg (fun h => c ⟨h.1, h.2.1, by omega⟩)]
theorem sP_step (f : Nat → Bool) (k i q : Nat) (hq : 1 ≤ q) : sP f k i (q + 1) (i + q) = sP f k i q (i + q) + if f q = true then P f k i else 0 := by
  have h1 := S_one q (if f q = true then P f k i else 0) (i + q) hq
  rw [if_pos (c := q ≤ i + q) (by omega)] at h1
  unfold sP
  rw [← h1, ← S_add]
  refine S_congr fun y a b => ?_
  by_cases cy : y = q
  · subst cy
    rw [if_pos rfl, if_neg (c := f y = true ∧ y ≤ i + y ∧ (i + y - y < i ∨ (i + y - y = i ∧ y < y))) (by omega)]
    by_cases c : f y = true
    · rw [if_pos ⟨c, b, .inr ⟨by omega, by omega⟩⟩, if_pos c, Nat.zero_add, show i + y - y = i from by omega]
    · rw [if_neg (fun h => c h.1), if_neg c]
  · rw [if_neg cy, Nat.add_zero]
    by_cases c : f y = true ∧ y ≤ i + q ∧ (i + q - y < i ∨ (i + q - y = i ∧ y < q))
    · rw [if_pos c, if_pos ⟨c.1, c.2.1, by omega⟩]; rfl
    · rw [if_neg c, if_neg (fun h => c ⟨h.1, h.2.1, by omega⟩)]
theorem sparts_l2 {t r : List Bool} (h : Good t r) (n : Nat) (hn : n ≤ 60) (k : Nat) (hk : k ≤ 1000) (w T : List Int) (hw : TellsI w (fun j => ((P (hasB t r) k j : Nat) : Int)) (n + 1)) (p : Nat) (i : Nat) (hi : i ≤ n) (res : List Int)
    (hend : ∀ l : List Int, l.length = n + 1 → (∀ j, j ≤ n → l.getD j 0 = ((sP (hasB t r) k (i + 1) 1 j : Nat) : Int)) → Ev (fun k => spec_l9Parts.l1 k n w T p l ((i + 1 : Nat) : Int) t r) res) (d : Nat) :
    ∀ (q : Nat) (l : List Int), q + d = n + 1 - i → 1 ≤ q → l.length = n + 1 → (∀ j, j ≤ n → l.getD j 0 = ((sP (hasB t r) k i q j : Nat) : Int)) →
      Ev (fun k => spec_l9Parts.l2 k n w T p l (i : Nat) (q : Nat) t r) res := by
  have hwl := hw.len
  induction d with
  | zero =>
    intro q l hq h1 hl ha
    refine Ev.step (fun _ => ?_) (hend l hl fun j hj => by rw [ha j hj, sP_next _ k n i q j hj (by omega)])
    simp only [spec_l9Parts.l2]
    rw [wra (by omega), if_neg (by omega), wr1 (by omega)]
  | succ d ih =>
    intro q l hq h1 hl ha
    have hW := P_bound (hasB t r) k (n := i) (by omega)
    have hW2 := P_bound (hasB t r) (k + 1) (n := i + q) (by omega)
    have hp := sP_le (hasB t r) k i q (i + q)
    have hp2 := sP_le (hasB t r) k i (q + 1) (i + q)
    have e := sP_step (hasB t r) k i q h1
    have e1 : w.getD i 0 = ((P (hasB t r) k i : Nat) : Int) := hw.get _ (by omega)
    have e2 : l.getD (i + q) 0 = ((sP (hasB t r) k i q (i + q) : Nat) : Int) := ha _ (by omega)
    have k1 := ih (q + 1) (l.set (i + q) ((sP (hasB t r) k i (q + 1) (i + q) : Nat) : Int)) (by omega) (by omega) (by rw [List.length_set, hl]) (fun j hj => by
      by_cases cj : j = i + q
      · subst cj; rw [getI_set_self _ _ _ (by omega)]
      · rw [getI_set_ne _ _ (fun h => cj h.symm), ha j hj, sP_other _ _ _ _ _ cj])
    refine Ev.step (fun _ => ?_) k1
    simp only [spec_l9Parts.l2]
    rw [wra (by omega), if_pos (by omega), if_pos (by omega), if_pos (by omega), l1_has h q (by omega)]
    simp only [Option.bind_some, bit_eq]
    rw [if_pos (by omega), if_pos (by omega), rd_nat, rd_nat, e1, e2, wr1 (by omega), Int.toNat_natCast, e]
    by_cases c : hasB t r q = true
    · rw [if_pos c, if_pos c, Int.one_mul, wr (x := ((P (hasB t r) k i : Nat) : Int)) (by omega) (by omega), wra (by omega)]
    · rw [if_neg c, if_neg c, Int.zero_mul, wr (x := (0 : Int)) (by omega) (by omega), Int.add_zero, wr (by omega) (by omega)]; rfl
theorem sparts_l1 {t r : List Bool} (h : Good t r) (n : Nat) (hn : n ≤ 60) (k : Nat) (hk : k ≤ 1000) (w T : List Int) (hw : TellsI w (fun j => ((P (hasB t r) k j : Nat) : Int)) (n + 1)) (p : Nat) (hp : p ≤ 1000) (res : List Int)
    (hend : ∀ l : List Int, TellsI l (fun j => ((P (hasB t r) (k + 1) j : Nat) : Int)) (n + 1) → Ev (fun k => spec_l9Parts.l0 k n l T ((p + 1 : Nat) : Int) t r) res) (d : Nat) :
    ∀ (i : Nat) (l : List Int), i + d = n + 1 → l.length = n + 1 → (∀ j, j ≤ n → l.getD j 0 = ((sP (hasB t r) k i 1 j : Nat) : Int)) →
      Ev (fun k => spec_l9Parts.l1 k n w T p l (i : Nat) t r) res := by
  induction d with
  | zero =>
    intro i l hi hl ha
    obtain rfl : i = n + 1 := by omega
    refine Ev.step (fun k => ?_) (hend l ⟨hl, fun j hj => by rw [ha j (by omega), sP_end _ k n j 1 (by omega)]⟩)
    simp only [spec_l9Parts.l1]
    rw [if_neg (by omega), wr1 (by omega)]
  | succ d ih =>
    intro i l hi hl ha
    refine Ev.step (fun k => ?_) (sparts_l2 h n hn k hk w T hw p i (by omega) res (fun l hl ha => ih (i + 1) l (by omega) hl ha) (n - i) 1 l (by omega) (by omega) hl ha)
    simp only [spec_l9Parts.l1]
    rw [if_pos (by omega)]
    rfl
theorem sparts_l0 {t r : List Bool} (h : Good t r) (n : Nat) (hn : n ≤ 60) (d : Nat) : ∀ (k : Nat) (w : List Int), k + d = 41 → TellsI w (fun j => ((P (hasB t r) k j : Nat) : Int)) (n + 1) →
    Ev (fun q => spec_l9Parts.l0 q n w (rows (hasB t r) n k) (k : Nat) t r) (rows (hasB t r) n 41) := by
  induction d with
  | zero =>
    intro k w hk hw
    obtain rfl : k = 41 := by omega
    refine Ev.end fun q => ?_
    simp only [spec_l9Parts.l0]
    rw [if_neg (by omega)]
  | succ d ih =>
    intro k w hk hw
    have hwl := hw.len
    have e : wrap64 ((n : Int) + 1) = ((n + 1 : Nat) : Int) := wr1 (by omega)
    have hr := rows_len (hasB t r) n k
    refine Ev.step (fun q => ?_) (sparts_l1 h n hn k (by omega) w (rows (hasB t r) n (k + 1)) hw k (by omega) _ (fun l hl => ih (k + 1) l (by omega) hl) (n + 1) 0 (List.replicate (n + 1) 0) (by omega) (by simp) (fun j hj => by rw [getI_rep, sP_start]; rfl))
    simp only [spec_l9Parts.l0, e, Int.toNat_natCast]
    rw [if_pos (by omega), if_pos (by omega), if_pos (by omega), if_pos (by omega), if_pos (by omega), if_pos (by omega), rd_nat, hw.get n (by omega), ← rows_succ]
    rfl
theorem sparts_ev {t r : List Bool} (h : Good t r) (n : Nat) (hn : n ≤ 60) : Ev (fun q => spec_l9Parts.f q t r n) (rows (hasB t r) n 41) := by
  have e : wrap64 ((n : Int) + 1) = ((n + 1 : Nat) : Int) := wr1 (by omega)
  unfold spec_l9Parts.f
  simp only [e, if_pos (show (0 : Int) ≤ ((n + 1 : Nat) : Int) by omega), Int.toNat_natCast, if_pos (show n + 1 ≤ 35184372088832 by omega), Option.bind_some, List.length_replicate, if_pos (show (0 : Int) < ((n + 1 : Nat) : Int) by omega)]
  exact sparts_l0 h n hn 41 0 _ (by omega) (ones_P _ n)

theorem waysPart_impl {s : ByteArray} {t r : List Bool} (h : IsSmall s t r) (n m : Nat) (hn : n ≤ 40) (hm : m ≤ 40) : Ev (fun k => impl_WaysPart.f k s n m) (((P (hasB t r) m n : Nat) : Int), true) := by
  have hin : impl_in.f m 0 40 = some true := by rw [in_eq', decide_eq_true (by omega)]
  have hl := rows_len (hasB t r) n (m + 1)
  unfold impl_WaysPart.f
  simp only [hin, Option.bind_some, if_true]
  refine Ev.bind (parts_yes h n m hn hm) (Ev.const fun k => ?_)
  simp only [if_true]
  rw [if_pos (by omega), if_pos (by omega), rd_nat, rows_get _ _ (by omega)]
theorem sparts_any {t r : List Bool} (h : Good t r) (n : Nat) (hn : n ≤ 60) : ∃ N, N = 41 ∧ Ev (fun q => spec_l9Parts.f q t r n) (rows (hasB t r) n N) := ⟨41, rfl, sparts_ev h n hn⟩
theorem waysPart_spec {s : ByteArray} {t r : List Bool} (h : IsSmall s t r) (n m : Nat) (hn : n ≤ 40) (hm : m ≤ 40) : Ev (fun k => spec_WaysPart.f k s n m) (((P (hasB t r) m n : Nat) : Int), true) := by
  have hin : spec_l6In.f m 0 40 = some true := by rw [l6In_eq', decide_eq_true (by omega)]
  obtain ⟨N, hN, k1⟩ := sparts_any h.good n (by omega)
  have hl := rows_len (hasB t r) n N
  have hg := rows_get (hasB t r) n (m := N) (k := m) (by omega)
  have k2 : Ev (fun k => (spec_l9Parts.f k t r n).bind fun t761 => (if 0 ≤ (m : Int) then (if (m : Int) < (t761.length : Int) then (some (rd t761 m, true)) else (none)) else (none))) (((P (hasB t r) m n : Nat) : Int), true) := by
    generalize rows (hasB t r) n N = L at *
    refine Ev.bind k1 (Ev.const fun k => ?_)
    rw [if_pos (by omega), if_pos (by omega), rd_nat, hg]
  unfold spec_WaysPart.f
  exact Ev.bind (given_yes h n 40 (by omega)) (Ev.eq (funext fun k => if_pos rfl) (Ev.bind (Ev.const fun _ => hin) (Ev.eq (funext fun k => if_pos rfl) k2)))
theorem waysPart_no {s : ByteArray} {n m : Int} (hs : NoSmall s ∨ ∃ t r, IsSmall s t r) (h : (NoSmall s ∨ ¬ (0 ≤ n ∧ n ≤ 40)) ∨ ¬ (0 ≤ m ∧ m ≤ 40)) : Ev (fun k => impl_WaysPart.f k s n m) (0, false) ∧ Ev (fun k => spec_WaysPart.f k s n m) (0, false) := by
  by_cases hm : 0 ≤ m ∧ m ≤ 40
  · have hin : impl_in.f m 0 40 = some true := by rw [in_eq', decide_eq_true hm]
    have hx : NoSmall s ∨ ¬ (0 ≤ n ∧ n ≤ 40) := by rcases h with h | h; exact h; exact absurd hm h
    constructor
    · unfold impl_WaysPart.f
      simp only [hin, Option.bind_some, if_true]
      refine Ev.bind (parts_no hs hx) (Ev.const fun k => ?_)
      simp only [Bool.false_eq_true, if_false]
    · obtain ⟨a, b, g⟩ := given_no hs hx
      unfold spec_WaysPart.f
      refine Ev.bind g ?_
      simp only [Bool.false_eq_true, if_false]
      exact Ev.now _
  · have hin : impl_in.f m 0 40 = some false := by rw [in_eq', decide_eq_false hm]
    have hin2 : spec_l6In.f m 0 40 = some false := by rw [l6In_eq', decide_eq_false hm]
    constructor
    · unfold impl_WaysPart.f
      simp only [hin, Option.bind_some, Bool.false_eq_true, if_false]
      exact Ev.now _
    · unfold spec_WaysPart.f
      by_cases hx : NoSmall s ∨ ¬ (0 ≤ n ∧ n ≤ 40)
      · obtain ⟨a, b, g⟩ := given_no hs hx
        refine Ev.bind g ?_
        simp only [Bool.false_eq_true, if_false]
        exact Ev.now _
      · rcases hs with g | ⟨t, r, g⟩
        · exact absurd (Or.inl g) hx
        · have hn2 : 0 ≤ n ∧ n ≤ 40 := Decidable.byContradiction fun k => hx (Or.inr k)
          obtain ⟨j, rfl⟩ : ∃ j : Nat, n = (j : Int) := ⟨n.toNat, by omega⟩
          refine Ev.bind (given_yes g j 40 (by omega)) ?_
          simp only [hin2, Option.bind_some, if_true, Bool.false_eq_true, if_false]
          exact Ev.now _

end Go.Proofs.Ytbepcaghlekbaaa.Q

namespace Go.Proofs.Ytbepcaghlekbaaa.Q
open Go.RowKit Go.Proofs.YtbepcaghlekbaaaW.PrintWords Go.Proofs.YtbepcaghlekbaaaW.PrintLast Go.Proofs.YtbepcaghlekbaaaW.PrintMore
attribute [local go_sem] max2_int min2_int max_two min_two max_three min_three max_four min_four   -- for this text's walks alone
set_option linter.unusedVariables false
set_option linter.unusedSimpArgs false

end Go.Proofs.Ytbepcaghlekbaaa.Q

namespace Go.Proofs.Ytbepcaghlekbaaa.Q
open Go.RowKit Go.Proofs.YtbepcaghlekbaaaW.PrintWords Go.Proofs.YtbepcaghlekbaaaW.PrintLast Go.Proofs.YtbepcaghlekbaaaW.PrintMore
attribute [local go_sem] max2_int min2_int max_two min_two max_three min_three max_four min_four   -- for this text's walks alone
set_option linter.unusedVariables false
set_option linter.unusedSimpArgs false

end Go.Proofs.Ytbepcaghlekbaaa.Q

namespace Go.Proofs.Ytbepcaghlekbaaa.Q
open Go.RowKit Go.Proofs.YtbepcaghlekbaaaW.PrintWords Go.Proofs.YtbepcaghlekbaaaW.PrintLast Go.Proofs.YtbepcaghlekbaaaW.PrintMore
attribute [local go_sem] max2_int min2_int max_two min_two max_three min_three max_four min_four   -- for this text's walks alone
set_option linter.unusedVariables false
set_option linter.unusedSimpArgs false

end Go.Proofs.Ytbepcaghlekbaaa.Q

namespace Go.Proofs.Ytbepcaghlekbaaa.Q
open Go.RowKit Go.Proofs.YtbepcaghlekbaaaW.PrintWords Go.Proofs.YtbepcaghlekbaaaW.PrintLast Go.Proofs.YtbepcaghlekbaaaW.PrintMore
attribute [local go_sem] max2_int min2_int max_two min_two max_three min_three max_four min_four   -- for this text's walks alone
set_option linter.unusedVariables false
set_option linter.unusedSimpArgs false

end Go.Proofs.Ytbepcaghlekbaaa.Q

namespace Go.Proofs.Ytbepcaghlekbaaa.Q
open Go.RowKit Go.Proofs.YtbepcaghlekbaaaW.PrintWords Go.Proofs.YtbepcaghlekbaaaW.PrintLast Go.Proofs.YtbepcaghlekbaaaW.PrintMore
attribute [local go_sem] max2_int min2_int max_two min_two max_three min_three max_four min_four   -- for this text's walks alone
set_option linter.unusedVariables false
set_option linter.unusedSimpArgs false

end Go.Proofs.Ytbepcaghlekbaaa.Q

namespace Go.Proofs.Ytbepcaghlekbaaa.Q
open Go.RowKit Go.Proofs.YtbepcaghlekbaaaW.PrintWords Go.Proofs.YtbepcaghlekbaaaW.PrintLast Go.Proofs.YtbepcaghlekbaaaW.PrintMore
attribute [local go_sem] max2_int min2_int max_two min_two max_three min_three max_four min_four   -- for this text's walks alone
set_option linter.unusedVariables false
set_option linter.unusedSimpArgs false

end Go.Proofs.Ytbepcaghlekbaaa.Q

namespace Go.Proofs.Ytbepcaghlekbaaa.Q
open Go.RowKit Go.Proofs.YtbepcaghlekbaaaW.PrintWords Go.Proofs.YtbepcaghlekbaaaW.PrintLast Go.Proofs.YtbepcaghlekbaaaW.PrintMore
attribute [local go_sem] max2_int min2_int max_two min_two max_three min_three max_four min_four   -- for this text's walks alone
set_option linter.unusedVariables false
set_option linter.unusedSimpArgs false

end Go.Proofs.Ytbepcaghlekbaaa.Q

namespace Go.Proofs.Ytbepcaghlekbaaa.Q
open Go.RowKit Go.Proofs.YtbepcaghlekbaaaW.PrintWords Go.Proofs.YtbepcaghlekbaaaW.PrintLast Go.Proofs.YtbepcaghlekbaaaW.PrintMore
attribute [local go_sem] max2_int min2_int max_two min_two max_three min_three max_four min_four   -- for this text's walks alone
set_option linter.unusedVariables false
set_option linter.unusedSimpArgs false

end Go.Proofs.Ytbepcaghlekbaaa.Q

namespace Go.Proofs.Ytbepcaghlekbaaa.Q
open Go.RowKit Go.Proofs.YtbepcaghlekbaaaW.PrintWords Go.Proofs.YtbepcaghlekbaaaW.PrintLast Go.Proofs.YtbepcaghlekbaaaW.PrintMore
attribute [local go_sem] max2_int min2_int max_two min_two max_three min_three max_four min_four   -- for this text's walks alone
set_option linter.unusedVariables false
set_option linter.unusedSimpArgs false

end Go.Proofs.Ytbepcaghlekbaaa.Q

namespace Go.Proofs.Ytbepcaghlekbaaa.Q
open Go.RowKit Go.Proofs.YtbepcaghlekbaaaW.PrintWords Go.Proofs.YtbepcaghlekbaaaW.PrintLast Go.Proofs.YtbepcaghlekbaaaW.PrintMore
attribute [local go_sem] max2_int min2_int max_two min_two max_three min_three max_four min_four   -- for this text's walks alone
set_option linter.unusedVariables false
set_option linter.unusedSimpArgs false

end Go.Proofs.Ytbepcaghlekbaaa.Q

namespace Go.Proofs.Ytbepcaghlekbaaa.Q
open Go.RowKit Go.Proofs.YtbepcaghlekbaaaW.PrintWords Go.Proofs.YtbepcaghlekbaaaW.PrintLast Go.Proofs.YtbepcaghlekbaaaW.PrintMore
attribute [local go_sem] max2_int min2_int max_two min_two max_three min_three max_four min_four   -- for this text's walks alone
set_option linter.unusedVariables false
set_option linter.unusedSimpArgs false

end Go.Proofs.Ytbepcaghlekbaaa.Q

namespace Go.Proofs.Ytbepcaghlekbaaa.Q
open Go.RowKit Go.Proofs.YtbepcaghlekbaaaW.PrintWords Go.Proofs.YtbepcaghlekbaaaW.PrintLast Go.Proofs.YtbepcaghlekbaaaW.PrintMore
attribute [local go_sem] max2_int min2_int max_two min_two max_three min_three max_four min_four   -- for this text's walks alone
set_option linter.unusedVariables false
set_option linter.unusedSimpArgs false

end Go.Proofs.Ytbepcaghlekbaaa.Q

namespace Go.Proofs.Ytbepcaghlekbaaa.Q
open Go.RowKit Go.Proofs.YtbepcaghlekbaaaW.PrintWords Go.Proofs.YtbepcaghlekbaaaW.PrintLast Go.Proofs.YtbepcaghlekbaaaW.PrintMore
open Go.Proofs.Ytbepcaghlekbaaa.Pl
set_option linter.unusedVariables false
set_option linter.unusedSimpArgs false
/-- A list that tells f up to its length. -/
structure Tells (l : List Bool) (f : Nat → Bool) (m : Nat) : Prop where
  len : l.length = m
  get : ∀ j, j < m → l.getD j false = f j
end Go.Proofs.Ytbepcaghlekbaaa.Q

namespace Go.Proofs.Ytbepcaghlekbaaa.Q
open Go.RowKit Go.Proofs.YtbepcaghlekbaaaW.PrintWords Go.Proofs.YtbepcaghlekbaaaW.PrintLast Go.Proofs.YtbepcaghlekbaaaW.PrintMore
set_option linter.unusedVariables false
set_option linter.unusedSimpArgs false
structure Bs (bs : List Int) : Prop where
  len : bs.length ≤ 2000
  byte : ∀ x ∈ bs, 0 ≤ x ∧ x ≤ 255
theorem byte_wf {x : Int} (h : (Lit.int .u8 x).wf = true) : 0 ≤ x ∧ x ≤ 255 := by
  have h1 : IntKind.u8.min = 0 := rfl
  have h2 : IntKind.u8.max = 255 := rfl
  simp [Lit.wf] at h
  omega
theorem open_ev (l0 : List Int) (h : ∀ x ∈ l0, (Lit.int .u8 x).wf = true) : ∃ bs, Bs bs ∧ spec_l6Open.f l0 = some (bs, 0) := by
  unfold spec_l6Open.f
  by_cases c : (l0.length : Int) > 2000
  · refine ⟨l0.take 2000, ⟨List.length_take_le _ _, fun x hx => byte_wf (h x (List.mem_of_mem_take hx))⟩, ?_⟩
    rw [if_pos c, if_pos (by omega)]
  · exact ⟨l0, ⟨by omega, fun x hx => byte_wf (h x hx)⟩, by rw [if_neg c]⟩
theorem rd_byte {bs : List Int} (h : Bs bs) (i : Nat) : ∃ b : Nat, b ≤ 255 ∧ rd bs (i : Int) = b := by
  have hx : 0 ≤ rd bs (i : Int) ∧ rd bs (i : Int) ≤ 255 := by
    unfold rd
    rw [Int.toNat_natCast]
    by_cases c : i < bs.length
    · have : bs.getD i 0 = bs[i] := by simp [List.getD, c]
      rw [this]
      exact h.byte _ (List.getElem_mem c)
    · have : bs.getD i 0 = 0 := by simp [List.getD, List.getElem?_eq_none (show bs.length ≤ i by omega)]
      rw [this]; omega
  obtain ⟨b, hb⟩ := Int.eq_ofNat_of_zero_le hx.1
  exact ⟨b, by omega, hb⟩
theorem xor_nat (a b : Nat) (ha : a < 2 ^ 62) (hb : b < 2 ^ 62) : Go.bits .xor .i64 (a : Int) (b : Int) = ((a ^^^ b : Nat) : Int) := by
  have h64 : IntKind.i64.bits = 64 := rfl
  have ha' : a % 2 ^ 64 = a := Nat.mod_eq_of_lt (by omega)
  have hb' : b % 2 ^ 64 = b := Nat.mod_eq_of_lt (by omega)
  have hx : a ^^^ b < 2 ^ 62 := Nat.xor_lt_two_pow ha hb
  simp only [Go.bits, h64, BitVec.ofInt_natCast, BitVec.toNat_xor, BitVec.toNat_ofNat, ha', hb']
  rw [IntKind.wrap_i64]
  omega
theorem pick_ev {bs : List Int} (h : Bs bs) (p n : Nat) (hp : p ≤ 1000000) (hn : 1 ≤ n) (hn2 : n ≤ 1000000) : ∃ v : Nat, v < n ∧ Ev (fun k => spec_l6Rd_pick.f k bs p n) ((v : Int), ((p + 1 : Nat) : Int)) := by
  have hl := h.len
  have e1 : wrap64 (((p + 1 : Nat) : Int) - 1) = (p : Nat) := by rw [wr (by omega) (by omega)]; omega
  have pos : ∀ v : Nat, Ev (fun k => spec_l6Rd_pick.j0 k n ((bs.length : Int) == 0) bs ((p + 1 : Nat) : Int)) ((v : Int), ((p + 1 : Nat) : Int)) → Ev (fun k => spec_l6Rd_pick.f k bs p n) ((v : Int), ((p + 1 : Nat) : Int)) := by
    intro v hv
    refine Ev.congr (fun k => ?_) hv
    unfold spec_l6Rd_pick.f
    rw [if_neg (by omega), wr1 (by omega)]
  by_cases c0 : bs.length = 0
  · refine ⟨0, by omega, pos 0 (Ev.end fun k => ?_)⟩
    simp only [spec_l6Rd_pick.j0]
    rw [if_pos (by rw [c0]; rfl)]
    rfl
  · have hne : ¬ (((bs.length : Int) == 0) = true) := by simp; intro h; exact c0 (by simp [h])
    by_cases c : p < bs.length
    · obtain ⟨b, hb, eb⟩ := rd_byte h p
      refine ⟨b % n, Nat.mod_lt _ (by omega), pos _ (Ev.end fun k => ?_)⟩
      simp only [spec_l6Rd_pick.j0]
      rw [if_neg hne, e1, if_pos (by omega), if_pos (by omega), if_neg (by omega), eb, wr (by omega) (by omega), tmod_nat]
    · have hm1 := Nat.mod_lt p (show bs.length > 0 by omega)
      have hm2 := Nat.mod_lt (p * 7 + 3) (show bs.length > 0 by omega)
      obtain ⟨b1, hb1, eb1⟩ := rd_byte h (p % bs.length)
      obtain ⟨b2, hb2, eb2⟩ := rd_byte h ((p * 7 + 3) % bs.length)
      have hd := Nat.div_le_self p bs.length
      have hx : b1 * 131 + b2 * 1117 + p * 29 + p / bs.length * 53 ≤ 100000000 := by omega
      refine ⟨((b1 * 131 + b2 * 1117 + p * 29 + p / bs.length * 53) ^^^ ((b1 * 131 + b2 * 1117 + p * 29 + p / bs.length * 53) / 64)) % n, Nat.mod_lt _ (by omega), pos _ (Ev.end fun k => ?_)⟩
      simp only [spec_l6Rd_pick.j0]
      have e7 : wrap64 (wrap64 (((p : Nat) : Int) * 7) + 3) = ((p * 7 + 3 : Nat) : Int) := by rw [wr (x := (p : Int) * 7) (by omega) (by omega), wr (by omega) (by omega)]; omega
      rw [if_neg hne, e1, if_neg (by omega), if_neg (by omega), e7, tmod_nat, tmod_nat, if_pos (by omega), if_pos (by omega), if_pos (by omega), if_pos (by omega), if_neg (by omega), eb1, eb2, tdiv_nat]
      have hX : wrap64 (wrap64 (wrap64 (wrap64 (wrap64 (b1 : Int) * 131) + wrap64 (wrap64 (b2 : Int) * 1117)) + wrap64 ((p : Int) * 29)) + wrap64 (wrap64 ((p / bs.length : Nat) : Int) * 53)) = ((b1 * 131 + b2 * 1117 + p * 29 + p / bs.length * 53 : Nat) : Int) := by
        generalize p / bs.length = q at *
        rw [wr (x := (b1 : Int)) (by omega) (by omega), wr (x := (b2 : Int)) (by omega) (by omega), wr (x := (b1 : Int) * 131) (by omega) (by omega), wr (x := (b2 : Int) * 1117) (by omega) (by omega), wr (x := (p : Int) * 29) (by omega) (by omega), wr (x := (q : Int)) (by omega) (by omega), wr (x := (q : Int) * 53) (by omega) (by omega), wr (x := (b1 : Int) * 131 + (b2 : Int) * 1117) (by omega) (by omega), wr (x := (b1 : Int) * 131 + (b2 : Int) * 1117 + (p : Int) * 29) (by omega) (by omega), wr (by omega) (by omega)]
        omega
      rw [hX]
      generalize b1 * 131 + b2 * 1117 + p * 29 + p / bs.length * 53 = X at hx
      have hq : wrap64 (Int.tdiv (X : Int) 64) = ((X / 64 : Nat) : Int) := by
        rw [show (64 : Int) = ((64 : Nat) : Int) from rfl, tdiv_nat, wr (by omega) (by omega)]
      rw [hq, xor_nat _ _ (by omega) (by omega), tmod_nat]

theorem signs_draw_l0 {bs : List Int} (h : Bs bs) (c : Nat) : ∀ (acc : List Int) (p : Nat), p + c ≤ 1000000 → acc.length + c ≤ 1000000 →
    ∃ s : ByteArray, s.size = acc.length + c ∧ Ev (fun k => spec_l91Signs.l0 k acc c bs p) (s, ((p + c : Nat) : Int)) := by
  induction c with
  | zero =>
    intro acc p hp ha
    refine ⟨strOfNums acc, strOfNums_size acc, Ev.end fun k => ?_⟩
    simp only [spec_l91Signs.l0]
    rw [if_neg (by omega)]; rfl
  | succ c ih =>
    intro acc p hp ha
    obtain ⟨v, hv, e⟩ := pick_ev h p 2 (by omega) (by omega) (by omega)
    obtain ⟨s, hs, es⟩ := ih (acc ++ [(wrap64 (48 + (v : Int))) % 256]) (p + 1) (by omega) (by rw [List.length_append, List.length_singleton]; omega)
    rw [List.length_append, List.length_singleton] at hs
    refine ⟨s, by omega, Ev.step (f := fun k => (spec_l6Rd_pick.f k bs p 2).bind fun x => if acc.length < 140737488355328 then spec_l91Signs.l0 k (acc ++ [(wrap64 (48 + x.1)) % 256]) (c : Nat) bs x.2 else none) (fun k => ?_) (Ev.bind e ?_)⟩
    · simp only [spec_l91Signs.l0]
      rw [if_pos (by omega), wr (x := ((c + 1 : Nat) : Int) - 1) (by omega) (by omega), show ((c + 1 : Nat) : Int) - 1 = (c : Int) from by omega]
    · simp only [if_pos (show acc.length < 140737488355328 from by omega)]
      rw [show p + (c + 1) = p + 1 + c from by omega]
      exact es
theorem signs_draw {bs : List Int} (h : Bs bs) (p low many : Nat) (hp : p ≤ 100000) (hl : low ≤ 1000) (hm : 1 ≤ many) (hm2 : many ≤ 1000) :
    ∃ (s : ByteArray) (q : Nat), s.size ≤ low + many ∧ q ≤ p + 1 + low + many ∧ Ev (fun k => spec_l91Signs.f k bs p low many) (s, (q : Int)) := by
  obtain ⟨v, hv, e⟩ := pick_ev h p many (by omega) hm (by omega)
  obtain ⟨s, hs, es⟩ := signs_draw_l0 h (low + v) [] (p + 1) (by omega) (by simp; omega)
  simp only [List.length_nil] at hs
  refine ⟨s, p + 1 + (low + v), by omega, by omega, ?_⟩
  unfold spec_l91Signs.f
  refine Ev.bind e ?_
  simp only [show wrap64 ((low : Int) + (v : Int)) = ((low + v : Nat) : Int) from by rw [wr (by omega) (by omega)]; omega]
  exact es

theorem set_draw {bs : List Int} (h : Bs bs) (p : Nat) (hp : p ≤ 50000) : ∃ (s : ByteArray) (q : Nat), s.size ≤ 100 ∧ q ≤ p + 100 ∧ Ev (fun k => spec_l91Set.f k bs p) (s, (q : Int)) := by
  obtain ⟨s1, p1, hs1, hp1, e1⟩ := signs_draw h p 0 6 (by omega) (by omega) (by omega) (by omega)
  obtain ⟨s2, p2, hs2, hp2, e2⟩ := signs_draw h p1 1 5 (by omega) (by omega) (by omega) (by omega)
  obtain ⟨v, hv, e3⟩ := pick_ev h p2 24 (by omega) (by omega) (by omega)
  have z1 : (⟨#[40]⟩ : ByteArray).size = 1 := rfl
  have z2 : (⟨#[41]⟩ : ByteArray).size = 1 := rfl
  have z3 : (⟨#[40, 48, 41]⟩ : ByteArray).size = 3 := rfl
  have key : ∃ (s : ByteArray) (q : Nat), s.size ≤ 100 ∧ q ≤ p + 100 ∧ Ev (fun k => if (v : Int) = 0 then ((some (([(⟨#[]⟩ : ByteArray), (⟨#[48]⟩ : ByteArray), (⟨#[40, 41]⟩ : ByteArray), (⟨#[49, 40]⟩ : ByteArray), (⟨#[40, 48, 41, 41]⟩ : ByteArray), (⟨#[97, 40, 49, 41]⟩ : ByteArray), (⟨#[40, 49, 41, 48]⟩ : ByteArray), (⟨#[48, 49, 40, 48, 50, 41]⟩ : ByteArray), (⟨#[48, 40, 40, 49, 41]⟩ : ByteArray)] : List ByteArray) : List ByteArray)).bind fun y => ((spec_l6Rd_pick.f k bs ((p2 + 1 : Nat) : Int) 9).bind fun x => (if 0 ≤ x.1 then (if x.1 < (y.length : Int) then (some (rdOf ByteArray.empty y x.1, x.2)) else (none)) else (none)))) else (if (v : Int) = 1 then ((spec_l91Signs.f k bs ((p2 + 1 : Nat) : Int) 0 6).bind fun x => (if x.1.size + 3 ≤ 9223372036854775807 then (some (x.1 ++ (⟨#[40, 48, 41]⟩ : ByteArray), x.2)) else (none))) else (if (v : Int) = 2 then (if 1 ≤ ((((s1 ++ (⟨#[40]⟩ : ByteArray)) ++ s2) ++ (⟨#[41]⟩ : ByteArray)).size : Int) then (if 1 + ((((s1 ++ (⟨#[40]⟩ : ByteArray)) ++ s2) ++ (⟨#[41]⟩ : ByteArray)).extract 1 (((s1 ++ (⟨#[40]⟩ : ByteArray)) ++ s2) ++ (⟨#[41]⟩ : ByteArray)).size).size ≤ 9223372036854775807 then (some ((⟨#[40]⟩ : ByteArray) ++ ((((s1 ++ (⟨#[40]⟩ : ByteArray)) ++ s2) ++ (⟨#[41]⟩ : ByteArray)).extract 1 (((s1 ++ (⟨#[40]⟩ : ByteArray)) ++ s2) ++ (⟨#[41]⟩ : ByteArray)).size), ((p2 + 1 : Nat) : Int))) else (none)) else (none)) else (some (((s1 ++ (⟨#[40]⟩ : ByteArray)) ++ s2) ++ (⟨#[41]⟩ : ByteArray), ((p2 + 1 : Nat) : Int)))))) (s, (q : Int)) := by
    by_cases c0 : v = 0
    · obtain ⟨u, hu, e4⟩ := pick_ev h (p2 + 1) 9 (by omega) (by omega) (by omega)
      refine ⟨rdOf ByteArray.empty [(⟨#[]⟩ : ByteArray), (⟨#[48]⟩ : ByteArray), (⟨#[40, 41]⟩ : ByteArray), (⟨#[49, 40]⟩ : ByteArray), (⟨#[40, 48, 41, 41]⟩ : ByteArray), (⟨#[97, 40, 49, 41]⟩ : ByteArray), (⟨#[40, 49, 41, 48]⟩ : ByteArray), (⟨#[48, 49, 40, 48, 50, 41]⟩ : ByteArray), (⟨#[48, 40, 40, 49, 41]⟩ : ByteArray)] (u : Int), p2 + 1 + 1, ?_, by omega, ?_⟩
      · have : u = 0 ∨ u = 1 ∨ u = 2 ∨ u = 3 ∨ u = 4 ∨ u = 5 ∨ u = 6 ∨ u = 7 ∨ u = 8 := by omega
        rcases this with rfl | rfl | rfl | rfl | rfl | rfl | rfl | rfl | rfl <;> decide
      · simp only [if_pos (show (v : Int) = 0 from by omega), Option.bind_some]
        refine Ev.bind e4 (Ev.const fun k => ?_)
        rw [if_pos (by omega), if_pos (by simp; omega)]
    · simp only [if_neg (show ¬ (v : Int) = 0 from by omega)]
      by_cases c1 : v = 1
      · obtain ⟨s4, p4, hs4, hp4, e4⟩ := signs_draw h (p2 + 1) 0 6 (by omega) (by omega) (by omega) (by omega)
        refine ⟨s4 ++ ⟨#[40, 48, 41]⟩, p4, by rw [ByteArray.size_append, z3]; omega, by omega, ?_⟩
        simp only [if_pos (show (v : Int) = 1 from by omega)]
        refine Ev.bind e4 (Ev.const fun k => ?_)
        rw [if_pos (by show s4.size + 3 ≤ 9223372036854775807; omega)]
      · simp only [if_neg (show ¬ (v : Int) = 1 from by omega)]
        have hsz : (((s1 ++ (⟨#[40]⟩ : ByteArray)) ++ s2) ++ (⟨#[41]⟩ : ByteArray)).size = s1.size + 1 + s2.size + 1 := by
          rw [ByteArray.size_append, ByteArray.size_append, ByteArray.size_append, z1, z2]
        by_cases c2 : v = 2
        · simp only [if_pos (show (v : Int) = 2 from by omega)]
          have hx : ((((s1 ++ (⟨#[40]⟩ : ByteArray)) ++ s2) ++ (⟨#[41]⟩ : ByteArray)).extract 1 (((s1 ++ (⟨#[40]⟩ : ByteArray)) ++ s2) ++ (⟨#[41]⟩ : ByteArray)).size).size = s1.size + 1 + s2.size := by
            rw [ext_size _ _ _ (Nat.le_refl _), hsz]; omega
          refine ⟨(⟨#[40]⟩ : ByteArray) ++ ((((s1 ++ (⟨#[40]⟩ : ByteArray)) ++ s2) ++ (⟨#[41]⟩ : ByteArray)).extract 1 (((s1 ++ (⟨#[40]⟩ : ByteArray)) ++ s2) ++ (⟨#[41]⟩ : ByteArray)).size), p2 + 1, ?_, by omega, Ev.const fun k => ?_⟩
          · rw [ByteArray.size_append, z1, hx]; omega
          · rw [if_pos (by omega), if_pos (by omega)]
        · simp only [if_neg (show ¬ (v : Int) = 2 from by omega)]
          exact ⟨_, p2 + 1, by rw [hsz]; omega, by omega, Ev.now _⟩
  obtain ⟨s, q, g1, g2, g3⟩ := key
  refine ⟨s, q, g1, g2, ?_⟩
  unfold spec_l91Set.f
  refine Ev.bind e1 ?_
  simp only [if_pos (show s1.size + 1 ≤ 9223372036854775807 from by omega)]
  refine Ev.bind e2 ?_
  have w1 : s1.size + 1 + s2.size ≤ 9223372036854775807 := by omega
  have w2 : s1.size + 1 + s2.size + 1 ≤ 9223372036854775807 := by omega
  simp only [if_pos w1, if_pos w2]
  exact Ev.bind e3 g3

end Go.Proofs.Ytbepcaghlekbaaa.Q

namespace Go.Proofs.Ytbepcaghlekbaaa.Q
open Go.RowKit Go.Proofs.YtbepcaghlekbaaaW.PrintWords Go.Proofs.YtbepcaghlekbaaaW.PrintLast Go.Proofs.YtbepcaghlekbaaaW.PrintMore
open Go.Proofs.Ytbepcaghlekbaaa.Pl
set_option linter.unusedVariables false
set_option linter.unusedSimpArgs false
theorem setHas_small {s : ByteArray} {t r : List Bool} (h : IsSmall s t r) (n : Nat) (hn : n ≤ 1073741824) : impl_SetHas.f s n = some (hasB t r n) := by
  obtain ⟨t0, r0, h0, h1⟩ := h.has
  unfold impl_SetHas.f
  rw [h0.impl]; simp only [Option.bind_some, if_true]
  rw [set_has h0.good n (by omega), h1]; rfl
theorem drawWaysPart_ev (l0 : List Int) (h : ∀ x ∈ l0, (Lit.int .u8 x).wf = true) : ∃ (s : ByteArray) (n m : Int), s.size ≤ 1000 ∧ -1 ≤ n ∧ n ≤ 201 ∧ -1 ≤ m ∧ m ≤ 201 ∧ Ev (fun k => spec_DrawWaysPart.f k l0) (s, n, m) := by
  obtain ⟨bs, hb, eo⟩ := open_ev l0 h
  obtain ⟨s, q, g1, g2, g3⟩ := set_draw hb 0 (by omega)
  obtain ⟨a, ha, e1⟩ := pick_ev hb q 44 (by omega) (by omega) (by omega)
  obtain ⟨b, hb2, e2⟩ := pick_ev hb (q + 1) 44 (by omega) (by omega) (by omega)
  refine ⟨s, wrap64 ((a : Int) - 1), wrap64 ((b : Int) - 1), by omega, ?_, ?_, ?_, ?_, ?_⟩
  · rw [wr (by omega) (by omega)]; omega
  · rw [wr (by omega) (by omega)]; omega
  · rw [wr (by omega) (by omega)]; omega
  · rw [wr (by omega) (by omega)]; omega
  unfold spec_DrawWaysPart.f
  rw [eo]; simp only [Option.bind_some]
  exact Ev.bind g3 (Ev.bind e1 (Ev.bind e2 (Ev.now _)))

end Go.Proofs.Ytbepcaghlekbaaa.Q

namespace Go.Proofs.Ytbepcaghlekbaaa.Pure
open Go.RowKit Go.Proofs.Ytbepcaghlekbaaa.Q Go.Proofs.YtbepcaghlekbaaaW.PrintWords Go.Proofs.YtbepcaghlekbaaaW.PrintLast
open Go.Proofs.Ytbepcaghlekbaaa.Pl
set_option linter.unusedSimpArgs false
set_option linter.unusedVariables false
theorem part_sum {s : ByteArray} {t r : List Bool} (g : IsSmall s t r) (n m : Nat) (hn : n ≤ 40) (hm : m + 1 ≤ 40) (d : Nat) : ∀ q, q + d = n → Ev (fun k => laws_FnWaysPart.l0 k s n ((m + 1 : Nat) : Int) ((P (hasB t r) (m + 1) n : Nat) : Int) ((pP (hasB t r) m n q : Nat) : Int) ((q + 1 : Nat) : Int)) true := by
  have hW := P_bound (hasB t r) (m + 1) (n := n) (by omega)
  have em : wrap64 (((m + 1 : Nat) : Int) - 1) = (m : Int) := by rw [wr (by omega) (by omega)]; omega
  induction d with
  | zero =>
    intro q hq
    obtain rfl : q = n := by omega
    refine Ev.end fun k => ?_
    simp only [laws_FnWaysPart.l0]
    rw [if_neg (by omega), pP_far _ _ _ _ (Nat.le_refl _)]
    simp
  | succ d ih =>
    intro q hq
    have k1 := ih (q + 1) (by omega)
    have hp := pP_le (hasB t r) m n (q + 1)
    have e : wrap64 ((n : Int) - ((q + 1 : Nat) : Int)) = ((n - (q + 1) : Nat) : Int) := wrs' (by omega) (by omega)
    rw [pP_succ] at k1 hp
    refine Ev.step (f := fun k => (impl_WaysPart.f k s ((n - (q + 1) : Nat) : Int) (m : Nat)).bind fun x => if x.2 = true then (if hasB t r (q + 1) = true then laws_FnWaysPart.l0 k s n ((m + 1 : Nat) : Int) ((P (hasB t r) (m + 1) n : Nat) : Int) (wrap64 (((pP (hasB t r) m n q : Nat) : Int) + x.1)) (wrap64 (((q + 1 : Nat) : Int) + 1)) else laws_FnWaysPart.l0 k s n ((m + 1 : Nat) : Int) ((P (hasB t r) (m + 1) n : Nat) : Int) ((pP (hasB t r) m n q : Nat) : Int) (wrap64 (((q + 1 : Nat) : Int) + 1))) else some false) (fun k => ?_) ?_
    · simp only [laws_FnWaysPart.l0]
      rw [if_pos (by omega), e, em, setHas_small g (q + 1) (by omega)]
      rfl
    · refine Ev.bind (waysPart_impl g _ m (by omega) (by omega)) (Ev.eq (funext fun k => if_pos rfl) ?_)
      by_cases c : hasB t r (q + 1) = true
      · rw [if_pos ⟨c, by omega⟩] at k1 hp
        refine Ev.eq (funext fun k => if_pos c) (Ev.eq (funext fun k => ?_) k1)
        simp only []
        rw [wra (by omega), wr1 (by omega)]
      · rw [if_neg (c := hasB t r (q + 1) = true ∧ q + 1 ≤ n) (fun h => c h.1)] at k1
        refine Ev.eq (funext fun k => if_neg c) (Ev.eq (funext fun k => ?_) k1)
        rw [wr1 (by omega)]
        rfl
theorem FnWaysPart : laws_FnWaysPart.Pure := by
  intro l0 h1 h2 h
  by_cases hz : (l0.length : Int) > 1048576
  · exact ⟨0, by unfold laws_FnWaysPart.f; rw [if_pos hz]⟩
  obtain ⟨s, n, j, hs, n1, n2, j1, j2, hd⟩ := drawWaysPart_ev l0 h
  refine Ev.rounds ?_
  unfold laws_FnWaysPart.f
  refine Ev.eq (funext fun k => if_neg hz) (Ev.bind hd ?_)
  have cs := small_cases s (by omega)
  have fin : ∀ b c d e, Ev (fun k => laws_FnWaysPart.j1 k b c d e true true) true := fun b c d e => Ev.end fun k => by simp only [laws_FnWaysPart.j1, if_true]
  by_cases hx : (NoSmall s ∨ ¬ (0 ≤ n ∧ n ≤ 40)) ∨ ¬ (0 ≤ j ∧ j ≤ 40)
  · obtain ⟨e1, e2⟩ := waysPart_no cs hx
    refine Ev.bind e1 (Ev.bind e2 (Ev.eq (funext fun k => if_pos rfl) ?_))
    exact Ev.step (f := fun k => laws_FnWaysPart.j1 k s n j 0 true true) (fun k => by simp only [laws_FnWaysPart.j0, beq_self_eq_true, if_true, Bool.not_false, Bool.false_eq_true, if_false]) (fin _ _ _ _)
  · rcases cs with g | ⟨t, r, g⟩
    · exact absurd (Or.inl (Or.inl g)) hx
    · have hn2 : 0 ≤ n ∧ n ≤ 40 := Decidable.byContradiction fun k => hx (Or.inl (Or.inr k))
      have hj2 : 0 ≤ j ∧ j ≤ 40 := Decidable.byContradiction fun k => hx (Or.inr k)
      obtain ⟨m, rfl⟩ : ∃ m : Nat, n = (m : Int) := ⟨n.toNat, by omega⟩
      obtain ⟨i, rfl⟩ : ∃ i : Nat, j = (i : Int) := ⟨j.toNat, by omega⟩
      refine Ev.bind (waysPart_impl g m i (by omega) (by omega)) (Ev.bind (waysPart_spec g m i (by omega) (by omega)) (Ev.eq (funext fun k => if_pos rfl) ?_))
      cases i with
      | zero => exact Ev.step (f := fun k => laws_FnWaysPart.j1 k s m 0 ((P (hasB t r) 0 m : Nat) : Int) true true) (fun k => by simp only [laws_FnWaysPart.j0, beq_self_eq_true, if_true]; rfl) (fin _ _ _ _)
      | succ i =>
        have ed : decide (((i + 1 : Nat) : Int) > 0) = true := decide_eq_true (by omega)
        have k1 := part_sum g m i (by omega) (by omega) m 0 (by omega)
        refine Ev.step (f := fun k => laws_FnWaysPart.j1 k s m ((i + 1 : Nat) : Int) ((P (hasB t r) (i + 1) m : Nat) : Int) true false) (fun k => by simp only [laws_FnWaysPart.j0, beq_self_eq_true, if_true, ed, Bool.not_true]) ?_
        exact Ev.step (fun k => by simp only [laws_FnWaysPart.j1, Bool.false_eq_true, if_false]; rfl) k1

end Go.Proofs.Ytbepcaghlekbaaa.Pure
