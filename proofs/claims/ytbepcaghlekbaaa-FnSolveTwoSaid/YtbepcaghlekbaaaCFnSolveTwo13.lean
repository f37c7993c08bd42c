/- The law FnSolveTwo holds for all that it draws. -/
import Derived.Laws.BitsLemmas
import Derived.Test.YtbepcaghlekbaaaCFnSolveTwo7
import Derived.Test.YtbepcaghlekbaaaCFnSolveTwo10
import Derived.Test.YtbepcaghlekbaaaCFnSolveTwo12
namespace Go.Proofs.Ytbepcaghlekbaaa.Q
open Go.RowKit Go.Proofs.YtbepcaghlekbaaaW.PrintWords Go.Proofs.YtbepcaghlekbaaaW.PrintLast Go.Proofs.YtbepcaghlekbaaaW.PrintMore
open Go.Proofs.Ytbepcaghlekbaaa.Pl
set_option linter.unusedVariables false
set_option linter.unusedSimpArgs false
theorem spec_ok (w : ByteArray) : (NoSmall w ∨ ∃ t r, IsSmall w t r) → ∃ a b ok, Ev (fun k => spec_l4Small.f k w) (a, b, ok) ∧ (ok = true → ¬ NoSmall w) := by
  rintro (hw | ⟨t, r, hw⟩)
  · obtain ⟨a, b, h⟩ := hw.spec
    exact ⟨a, b, false, h, fun h => absurd h (by simp)⟩
  · refine ⟨t, r, true, hw.spec, fun _ hn => ?_⟩
    obtain ⟨a, b, h⟩ := hn.spec
    have := Ev.unique h hw.spec
    simp at this
theorem hasB_up (t r : List Bool) (n : Nat) : hasB (false :: t) r (n + 1) = hasB t r n := by
  unfold hasB
  simp only [List.length_cons]
  by_cases c : n < t.length
  · rw [if_pos c, if_pos (by omega)]; simp [List.getD]
  · rw [if_neg c, if_neg (by omega), show n + 1 - (t.length + 1) = n - t.length from by omega]
theorem up_good {t r : List Bool} (h : Good t r) (ht : t.length ≤ 8) : Good (false :: t) r := ⟨h.pos, by simp only [List.length_cons]; omega, h.rl⟩
theorem count_l0 {l : List Bool} {f : Nat → Bool} {m : Nat} (h : Tells l f m) (hm : m ≤ 1000000) (d : Nat) : ∀ i, i + d = m → Ev (fun k => impl_SolveTwo.l0 k ((cnt f i : Nat) : Int) l m (i : Nat)) (((cnt f m : Nat) : Int), true) := by
  have hl := h.len
  induction d with
  | zero =>
    intro i hi
    obtain rfl : i = m := by omega
    refine Ev.end fun k => ?_
    simp only [impl_SolveTwo.l0]
    rw [if_neg (by omega)]
  | succ d ih =>
    intro i hi
    have e := h.get i (by omega)
    have hc := cnt_le f i
    have k1 := ih (i + 1) (by omega)
    rw [cnt_succ] at k1
    refine Ev.step (fun k => ?_) k1
    simp only [impl_SolveTwo.l0]
    rw [if_pos (by omega), if_pos (by omega), if_pos (by omega), rdOf_nat, e, wr1 (n := i) (by omega), wr1 (by omega)]
    split
    · rfl
    · rfl
theorem two_l1 {ta ra tb rb : List Bool} (hA : Good ta ra) (m : Nat) (hm : m ≤ 1000000) (g : Nat → Bool) (hg : ∀ i, g i = true ↔ hasB tb rb i = true ∨ ∃ y, y < i ∧ hasB ta ra y = true ∧ g (i - y - 1) = true) (n i : Nat) (hi : i < m) (hni : n ≤ i) (res : Int × Bool)
    (hend : ∀ l : List Bool, l.length = m → (∀ j, j < i + 1 → l.getD j false = g j) → Ev (fun k => spec_SolveTwo.l0 k m l ((if g i = true then n + 1 else n : Nat) : Int) ((i + 1 : Nat) : Int) ta ra tb rb) res) (d : Nat) :
    ∀ (q : Nat) (l : List Bool), q + d = i → l.length = m → (∀ j, j < i → l.getD j false = g j) → (l.getD i false = true ↔ hasB tb rb i = true ∨ ∃ y, y < q ∧ hasB ta ra y = true ∧ g (i - y - 1) = true) →
      Ev (fun k => spec_SolveTwo.l1 k m l (n : Nat) (i : Nat) (q : Nat) ta ra tb rb) res := by
  induction d with
  | zero =>
    intro q l hq hl ha hb1
    obtain rfl : q = i := by omega
    have e : l.getD q false = g q := by rw [Bool.eq_iff_iff, hb1, hg]
    have k1 := hend l hl fun j hj => by
      rcases Nat.lt_or_ge j q with c | c
      · exact ha j c
      · obtain rfl : j = q := by omega
        exact e
    refine Ev.step (fun k => ?_) k1
    simp only [spec_SolveTwo.l1]
    rw [if_neg (by omega), if_pos (by omega), if_pos (by omega), rdOf_nat, e, wr1 (n := q) (by omega), wr1 (by omega)]
    split
    · rfl
    · rfl
  | succ d ih =>
    intro q l hq hl ha hb1
    have nx : ∀ v : Bool, (v = true ↔ l.getD i false = true ∨ (hasB ta ra q = true ∧ g (i - q - 1) = true)) → Ev (fun k => spec_SolveTwo.l1 k m (l.set i v) (n : Nat) (i : Nat) ((q + 1 : Nat) : Int) ta ra tb rb) res := by
      intro v hv
      refine ih (q + 1) (l.set i v) (by omega) (by rw [List.length_set, hl]) (fun j hj => by rw [getD_set_ne _ _ (by omega)]; exact ha j hj) ?_
      rw [getD_set_self _ _ _ (by omega), hv, hb1]
      constructor
      · rintro ((h | ⟨y, b, c⟩) | h)
        · exact .inl h
        · exact .inr ⟨y, by omega, c⟩
        · exact .inr ⟨q, by omega, h⟩
      · rintro (h | ⟨y, b, c⟩)
        · exact .inl (.inl h)
        · rcases Nat.lt_or_ge y q with e | e
          · exact .inl (.inr ⟨y, e, c⟩)
          · obtain rfl : y = q := by omega
            exact .inr c
    cases e : l.getD i false with
    | true =>
      refine Ev.step (fun k => ?_) (nx true ⟨fun _ => .inl e, fun _ => rfl⟩)
      simp only [spec_SolveTwo.l1]
      rw [if_pos (by omega), if_pos (by omega), if_pos (by omega), rdOf_nat, if_pos e, wr1 (by omega), Int.toNat_natCast]
    | false =>
      by_cases c : hasB ta ra q = true
      · refine Ev.step (fun k => ?_) (nx (l.getD (i - q - 1) false) (by rw [ha (i - q - 1) (by omega), e]; simp [c]))
        simp only [spec_SolveTwo.l1]
        rw [if_pos (by omega), if_pos (by omega), if_pos (by omega), rdOf_nat, if_neg (by rw [e]; simp), l1_has hA q (by omega)]
        simp only [Option.bind_some]
        rw [if_pos c, wrs (by omega) (by omega), wrm1 (by omega) (by omega), if_pos (by omega), if_pos (by omega), rdOf_nat, wr1 (by omega), Int.toNat_natCast]
      · refine Ev.step (fun k => ?_) (nx false (by rw [e]; simp [c]))
        simp only [spec_SolveTwo.l1]
        rw [if_pos (by omega), if_pos (by omega), if_pos (by omega), rdOf_nat, if_neg (by rw [e]; simp), l1_has hA q (by omega)]
        simp only [Option.bind_some]
        rw [if_neg c, wr1 (by omega), Int.toNat_natCast]
theorem two_l0 {ta ra tb rb : List Bool} (hA : Good ta ra) (hb : Good tb rb) (m : Nat) (hm : m ≤ 1000000) (g : Nat → Bool) (hg : ∀ i, g i = true ↔ hasB tb rb i = true ∨ ∃ y, y < i ∧ hasB ta ra y = true ∧ g (i - y - 1) = true) (d : Nat) :
    ∀ (i : Nat) (l : List Bool), i + d = m → l.length = m → (∀ j, j < i → l.getD j false = g j) → Ev (fun k => spec_SolveTwo.l0 k m l ((cnt g i : Nat) : Int) (i : Nat) ta ra tb rb) (((cnt g m : Nat) : Int), true) := by
  induction d with
  | zero =>
    intro i l hi hl ha
    obtain rfl : i = m := by omega
    refine Ev.end fun k => ?_
    simp only [spec_SolveTwo.l0]
    rw [if_neg (by omega)]
  | succ d ih =>
    intro i l hi hl ha
    have k1 := two_l1 hA m hm g hg (cnt g i) i (by omega) (cnt_le g i) (((cnt g m : Nat) : Int), true) (fun l hl ha => by
        have := ih (i + 1) l (by omega) hl ha
        rw [cnt_succ] at this
        by_cases c : g i = true
        · simp only [c, if_true] at this ⊢; exact this
        · simp only [c] at this ⊢; exact this) i 0 (l.set i (hasB tb rb i)) (by omega) (by rw [List.length_set, hl]) (fun j hj => by rw [getD_set_ne _ _ (by omega)]; exact ha j hj)
      (by rw [getD_set_self _ _ _ (by omega)]; exact ⟨.inl, fun h => by rcases h with h | ⟨y, a, _⟩; exact h; omega⟩)
    refine Ev.step (fun k => ?_) k1
    simp only [spec_SolveTwo.l0]
    rw [if_pos (by omega), l1_has hb i (by omega)]
    simp only [Option.bind_some]
    rw [if_pos (by omega), if_pos (by omega), Int.toNat_natCast]
    rfl
/-- The set that SolveTwo counts. -/
def two (ta ra tb rb : List Bool) : Nat → Bool := lst (hasB (false :: ta) ra) (hasB tb rb)
theorem two_iff (ta ra tb rb : List Bool) (i : Nat) : two ta ra tb rb i = true ↔ hasB tb rb i = true ∨ ∃ y, y < i ∧ hasB ta ra y = true ∧ two ta ra tb rb (i - y - 1) = true := by
  unfold two
  rw [lst_iff]
  constructor
  · rintro (h | ⟨y, a, b, c, d⟩)
    · exact .inl h
    · obtain ⟨z, rfl⟩ : ∃ z, y = z + 1 := ⟨y - 1, by omega⟩
      exact .inr ⟨z, by omega, by rw [← hasB_up]; exact c, d⟩
  · rintro (h | ⟨y, a, b, c⟩)
    · exact .inl h
    · exact .inr ⟨y + 1, by omega, by omega, by rw [hasB_up]; exact b, c⟩
theorem solveTwo_impl {s u : ByteArray} {ta ra tb rb : List Bool} (h : IsSmall s ta ra) (h2 : IsSmall u tb rb) (n : Nat) (hn : n ≤ 500) : Ev (fun k => impl_SolveTwo.f k s u n) (((cnt (two ta ra tb rb) n : Nat) : Int), true) := by
  have htl := h.tl
  obtain ⟨l, s1, s2⟩ := solved_ev (up_good h.good h.tl) h2.good n (by omega)
  have hin : impl_in.f n 0 500 = some true := by rw [in_eq', decide_eq_true (by omega)]
  unfold impl_SolveTwo.f
  refine Ev.bind (two_yes h h2) ?_
  simp only [if_true, hin, Option.bind_some]
  refine Ev.step (f := fun k => (impl_solved.f k (false :: ta) ra tb rb n).bind fun t605 => (impl_SolveTwo.l0 k 0 t605 (t605.length : Int) 0)) (fun k => ?_) (Ev.bind s1 ?_)
  · simp only [impl_SolveTwo.j0, Bool.not_true, Bool.false_eq_true, if_false, Option.bind_some, List.length_cons, List.length_nil]
    rw [if_pos (by omega)]
    rfl
  · rw [s2.len]
    exact count_l0 s2 (by omega) n 0 (by omega)
theorem solveTwo_spec {s u : ByteArray} {ta ra tb rb : List Bool} (h : IsSmall s ta ra) (h2 : IsSmall u tb rb) (n : Nat) (hn : n ≤ 500) : Ev (fun k => spec_SolveTwo.f k s u n) (((cnt (two ta ra tb rb) n : Nat) : Int), true) := by
  have htl := h.tl
  have hin : spec_l6In.f n 0 500 = some true := by rw [l6In_eq', decide_eq_true (by omega)]
  have k1 := two_l0 h.good h2.good n (by omega) (two ta ra tb rb) (two_iff ta ra tb rb) n 0 (List.replicate n false) (by omega) (List.length_replicate ..) (fun j hj => absurd hj (Nat.not_lt_zero j))
  unfold spec_SolveTwo.f
  refine Ev.bind h.spec (Ev.bind h2.spec ?_)
  simp only [if_true, hin, Option.bind_some]
  refine Ev.step (fun k => ?_) k1
  simp only [spec_SolveTwo.j0, Bool.not_true, Bool.false_eq_true, if_false, if_pos (show (0 : Int) ≤ (n : Int) by omega), Int.toNat_natCast, if_pos (show n ≤ 281474976710656 by omega)]
  rfl
theorem solveTwo_no {s u : ByteArray} {n : Int} (hs : NoSmall s ∨ ∃ t r, IsSmall s t r) (hu : NoSmall u ∨ ∃ t r, IsSmall u t r) (h : (NoSmall s ∨ NoSmall u) ∨ ¬ (0 ≤ n ∧ n ≤ 500)) : Ev (fun k => impl_SolveTwo.f k s u n) (0, false) ∧ Ev (fun k => spec_SolveTwo.f k s u n) (0, false) := by
  have i0 : ∀ a b c d, Ev (fun k => impl_SolveTwo.j0 k n true a b c d) (0, false) := fun a b c d => Ev.end fun k => by simp only [impl_SolveTwo.j0, if_true]
  have s0 : ∀ a b c d, Ev (fun k => spec_SolveTwo.j0 k n true a b c d) (0, false) := fun a b c d => Ev.end fun k => by simp only [spec_SolveTwo.j0, if_true]
  by_cases hx : NoSmall s ∨ NoSmall u
  · constructor
    · obtain ⟨a, b, c, d, h1⟩ := two_no hs hu hx
      unfold impl_SolveTwo.f
      refine Ev.bind h1 ?_
      simp only [Bool.false_eq_true, if_false]
      exact i0 _ _ _ _
    · obtain ⟨a, b, o1, g1, n1⟩ := spec_ok s hs
      obtain ⟨c, d, o2, g2, n2⟩ := spec_ok u hu
      unfold spec_SolveTwo.f
      refine Ev.bind g1 (Ev.bind g2 ?_)
      cases o1 with
      | false => simp only [Bool.false_eq_true, if_false]; exact s0 _ _ _ _
      | true =>
        cases o2 with
        | false => simp only [if_true, Bool.false_eq_true, if_false]; exact s0 _ _ _ _
        | true => exact absurd hx (fun h => by rcases h with h | h; exact n1 rfl h; exact n2 rfl h)
  · have hn : ¬ (0 ≤ n ∧ n ≤ 500) := by rcases h with h | h; exact absurd h hx; exact h
    rcases hs with h | ⟨t, r, h⟩
    · exact absurd (Or.inl h) hx
    · rcases hu with g | ⟨t', r', g⟩
      · exact absurd (Or.inr g) hx
      · have hin : impl_in.f n 0 500 = some false := by rw [in_eq', decide_eq_false hn]
        have hin2 : spec_l6In.f n 0 500 = some false := by rw [l6In_eq', decide_eq_false hn]
        constructor
        · unfold impl_SolveTwo.f
          refine Ev.bind (two_yes h g) ?_
          simp only [if_true, hin, Option.bind_some, Bool.not_false]
          exact i0 _ _ _ _
        · unfold spec_SolveTwo.f
          refine Ev.bind h.spec (Ev.bind g.spec ?_)
          simp only [if_true, hin2, Option.bind_some, Bool.not_false]
          exact s0 _ _ _ _


theorem below_l0 {t r : List Bool} (h : Good t r) (n : Nat) (hn : n ≤ 1073741824) (d : Nat) : ∀ i, i + d = n → Ev (fun k => impl_set_below.l0 k (listM (hasB t r) i) n (i : Nat) t r) (listM (hasB t r) n) := by
  induction d with
  | zero =>
    intro i hi
    obtain rfl : i = n := by omega
    refine Ev.end fun k => ?_
    simp only [impl_set_below.l0]
    rw [if_neg (by omega)]
  | succ d ih =>
    intro i hi
    have hle := listM_length_le (hasB t r) i
    have h1 := ih (i + 1) (by omega)
    rw [listM_succ] at h1
    refine Ev.step (fun k => ?_) h1
    simp only [impl_set_below.l0]
    rw [if_pos (by omega), set_has h i (by omega)]
    simp only [Option.bind_some]
    rw [wr1 (by omega)]
    by_cases c : hasB t r i = true
    · rw [if_pos c, if_pos (by omega), if_pos c]
    · rw [if_neg c, if_neg c]
theorem below_ev {t r : List Bool} (h : Good t r) (n : Nat) (hn : n ≤ 1073741824) : Ev (fun k => impl_set_below.f k t r n) (listM (hasB t r) n) := by
  have := below_l0 h n hn n 0 (by omega)
  exact this


end Go.Proofs.Ytbepcaghlekbaaa.Q

namespace Go.Proofs.Ytbepcaghlekbaaa.Q
open Go.RowKit Go.Proofs.YtbepcaghlekbaaaW.PrintWords Go.Proofs.YtbepcaghlekbaaaW.PrintLast Go.Proofs.YtbepcaghlekbaaaW.PrintMore
set_option linter.unusedVariables false
set_option linter.unusedSimpArgs false
structure Bs (bs : List Int) : Prop where
  len : bs.length ≤ 2000
  byte : ∀ x ∈ bs, 0 ≤ x ∧ x ≤ 255
theorem byte_wf {x : Int} (h : (Lit.int .u8 x).wf = true) : 0 ≤ x ∧ x ≤ 255 := by
  have h1 : IntKind.u8.min = 0 := rfl
  have h2 : IntKind.u8.max = 255 := rfl
  simp [Lit.wf] at h
  omega
theorem open_ev (l0 : List Int) (h : ∀ x ∈ l0, (Lit.int .u8 x).wf = true) : ∃ bs, Bs bs ∧ spec_l6Open.f l0 = some (bs, 0) := by
  unfold spec_l6Open.f
  by_cases c : (l0.length : Int) > 2000
  · refine ⟨l0.take 2000, ⟨List.length_take_le _ _, fun x hx => byte_wf (h x (List.mem_of_mem_take hx))⟩, ?_⟩
    rw [if_pos c, if_pos (by omega)]
  · exact ⟨l0, ⟨by omega, fun x hx => byte_wf (h x hx)⟩, by rw [if_neg c]⟩
theorem rd_byte {bs : List Int} (h : Bs bs) (i : Nat) : ∃ b : Nat, b ≤ 255 ∧ rd bs (i : Int) = b := by
  have hx : 0 ≤ rd bs (i : Int) ∧ rd bs (i : Int) ≤ 255 := by
    unfold rd
    rw [Int.toNat_natCast]
    by_cases c : i < bs.length
    · have : bs.getD i 0 = bs[i] := by simp [List.getD, c]
      rw [this]
      exact h.byte _ (List.getElem_mem c)
    · have : bs.getD i 0 = 0 := by simp [List.getD, List.getElem?_eq_none (show bs.length ≤ i by omega)]
      rw [this]; omega
  obtain ⟨b, hb⟩ := Int.eq_ofNat_of_zero_le hx.1
  exact ⟨b, by omega, hb⟩
theorem xor_nat (a b : Nat) (ha : a < 2 ^ 62) (hb : b < 2 ^ 62) : Go.bits .xor .i64 (a : Int) (b : Int) = ((a ^^^ b : Nat) : Int) := by
  have h64 : IntKind.i64.bits = 64 := rfl
  have ha' : a % 2 ^ 64 = a := Nat.mod_eq_of_lt (by omega)
  have hb' : b % 2 ^ 64 = b := Nat.mod_eq_of_lt (by omega)
  have hx : a ^^^ b < 2 ^ 62 := Nat.xor_lt_two_pow ha hb
  simp only [Go.bits, h64, BitVec.ofInt_natCast, BitVec.toNat_xor, BitVec.toNat_ofNat, ha', hb']
  rw [IntKind.wrap_i64]
  omega
theorem pick_ev {bs : List Int} (h : Bs bs) (p n : Nat) (hp : p ≤ 1000000) (hn : 1 ≤ n) (hn2 : n ≤ 1000000) : ∃ v : Nat, v < n ∧ Ev (fun k => spec_l6Rd_pick.f k bs p n) ((v : Int), ((p + 1 : Nat) : Int)) := by
  have hl := h.len
  have e1 : wrap64 (((p + 1 : Nat) : Int) - 1) = (p : Nat) := by rw [wr (by omega) (by omega)]; omega
  have pos : ∀ v : Nat, Ev (fun k => spec_l6Rd_pick.j0 k n ((bs.length : Int) == 0) bs ((p + 1 : Nat) : Int)) ((v : Int), ((p + 1 : Nat) : Int)) → Ev (fun k => spec_l6Rd_pick.f k bs p n) ((v : Int), ((p + 1 : Nat) : Int)) := by
    intro v hv
    refine Ev.congr (fun k => ?_) hv
    unfold spec_l6Rd_pick.f
    rw [if_neg (by omega), wr1 (by omega)]
  by_cases c0 : bs.length = 0
  · refine ⟨0, by omega, pos 0 (Ev.end fun k => ?_)⟩
    simp only [spec_l6Rd_pick.j0]
    rw [if_pos (by rw [c0]; rfl)]
    rfl
  · have hne : ¬ (((bs.length : Int) == 0) = true) := by simp; intro h; exact c0 (by simp [h])
    by_cases c : p < bs.length
    · obtain ⟨b, hb, eb⟩ := rd_byte h p
      refine ⟨b % n, Nat.mod_lt _ (by omega), pos _ (Ev.end fun k => ?_)⟩
      simp only [spec_l6Rd_pick.j0]
      rw [if_neg hne, e1, if_pos (by omega), if_pos (by omega), if_neg (by omega), eb, wr (by omega) (by omega), tmod_nat]
    · have hm1 := Nat.mod_lt p (show bs.length > 0 by omega)
      have hm2 := Nat.mod_lt (p * 7 + 3) (show bs.length > 0 by omega)
      obtain ⟨b1, hb1, eb1⟩ := rd_byte h (p % bs.length)
      obtain ⟨b2, hb2, eb2⟩ := rd_byte h ((p * 7 + 3) % bs.length)
      have hd := Nat.div_le_self p bs.length
      have hx : b1 * 131 + b2 * 1117 + p * 29 + p / bs.length * 53 ≤ 100000000 := by omega
      refine ⟨((b1 * 131 + b2 * 1117 + p * 29 + p / bs.length * 53) ^^^ ((b1 * 131 + b2 * 1117 + p * 29 + p / bs.length * 53) / 64)) % n, Nat.mod_lt _ (by omega), pos _ (Ev.end fun k => ?_)⟩
      simp only [spec_l6Rd_pick.j0]
      have e7 : wrap64 (wrap64 (((p : Nat) : Int) * 7) + 3) = ((p * 7 + 3 : Nat) : Int) := by rw [wr (x := (p : Int) * 7) (by omega) (by omega), wr (by omega) (by omega)]; omega
      rw [if_neg hne, e1, if_neg (by omega), if_neg (by omega), e7, tmod_nat, tmod_nat, if_pos (by omega), if_pos (by omega), if_pos (by omega), if_pos (by omega), if_neg (by omega), eb1, eb2, tdiv_nat]
      have hX : wrap64 (wrap64 (wrap64 (wrap64 (wrap64 (b1 : Int) * 131) + wrap64 (wrap64 (b2 : Int) * 1117)) + wrap64 ((p : Int) * 29)) + wrap64 (wrap64 ((p / bs.length : Nat) : Int) * 53)) = ((b1 * 131 + b2 * 1117 + p * 29 + p / bs.length * 53 : Nat) : Int) := by
        generalize p / bs.length = q at *
        rw [wr (x := (b1 : Int)) (by omega) (by omega), wr (x := (b2 : Int)) (by omega) (by omega), wr (x := (b1 : Int) * 131) (by omega) (by omega), wr (x := (b2 : Int) * 1117) (by omega) (by omega), wr (x := (p : Int) * 29) (by omega) (by omega), wr (x := (q : Int)) (by omega) (by omega), wr (x := (q : Int) * 53) (by omega) (by omega), wr (x := (b1 : Int) * 131 + (b2 : Int) * 1117) (by omega) (by omega), wr (x := (b1 : Int) * 131 + (b2 : Int) * 1117 + (p : Int) * 29) (by omega) (by omega), wr (by omega) (by omega)]
        omega
      rw [hX]
      generalize b1 * 131 + b2 * 1117 + p * 29 + p / bs.length * 53 = X at hx
      have hq : wrap64 (Int.tdiv (X : Int) 64) = ((X / 64 : Nat) : Int) := by
        rw [show (64 : Int) = ((64 : Nat) : Int) from rfl, tdiv_nat, wr (by omega) (by omega)]
      rw [hq, xor_nat _ _ (by omega) (by omega), tmod_nat]

theorem signs_draw_l0 {bs : List Int} (h : Bs bs) (c : Nat) : ∀ (acc : List Int) (p : Nat), p + c ≤ 1000000 → acc.length + c ≤ 1000000 →
    ∃ s : ByteArray, s.size = acc.length + c ∧ Ev (fun k => spec_l91Signs.l0 k acc c bs p) (s, ((p + c : Nat) : Int)) := by
  induction c with
  | zero =>
    intro acc p hp ha
    refine ⟨strOfNums acc, strOfNums_size acc, Ev.end fun k => ?_⟩
    simp only [spec_l91Signs.l0]
    rw [if_neg (by omega)]; rfl
  | succ c ih =>
    intro acc p hp ha
    obtain ⟨v, hv, e⟩ := pick_ev h p 2 (by omega) (by omega) (by omega)
    obtain ⟨s, hs, es⟩ := ih (acc ++ [(wrap64 (48 + (v : Int))) % 256]) (p + 1) (by omega) (by rw [List.length_append, List.length_singleton]; omega)
    rw [List.length_append, List.length_singleton] at hs
    refine ⟨s, by omega, Ev.step (f := fun k => (spec_l6Rd_pick.f k bs p 2).bind fun x => if acc.length < 140737488355328 then spec_l91Signs.l0 k (acc ++ [(wrap64 (48 + x.1)) % 256]) (c : Nat) bs x.2 else none) (fun k => ?_) (Ev.bind e ?_)⟩
    · simp only [spec_l91Signs.l0]
      rw [if_pos (by omega), wr (x := ((c + 1 : Nat) : Int) - 1) (by omega) (by omega), show ((c + 1 : Nat) : Int) - 1 = (c : Int) from by omega]
    · simp only [if_pos (show acc.length < 140737488355328 from by omega)]
      rw [show p + (c + 1) = p + 1 + c from by omega]
      exact es
theorem signs_draw {bs : List Int} (h : Bs bs) (p low many : Nat) (hp : p ≤ 100000) (hl : low ≤ 1000) (hm : 1 ≤ many) (hm2 : many ≤ 1000) :
    ∃ (s : ByteArray) (q : Nat), s.size ≤ low + many ∧ q ≤ p + 1 + low + many ∧ Ev (fun k => spec_l91Signs.f k bs p low many) (s, (q : Int)) := by
  obtain ⟨v, hv, e⟩ := pick_ev h p many (by omega) hm (by omega)
  obtain ⟨s, hs, es⟩ := signs_draw_l0 h (low + v) [] (p + 1) (by omega) (by simp; omega)
  simp only [List.length_nil] at hs
  refine ⟨s, p + 1 + (low + v), by omega, by omega, ?_⟩
  unfold spec_l91Signs.f
  refine Ev.bind e ?_
  simp only [show wrap64 ((low : Int) + (v : Int)) = ((low + v : Nat) : Int) from by rw [wr (by omega) (by omega)]; omega]
  exact es

theorem set_draw {bs : List Int} (h : Bs bs) (p : Nat) (hp : p ≤ 50000) : ∃ (s : ByteArray) (q : Nat), s.size ≤ 100 ∧ q ≤ p + 100 ∧ Ev (fun k => spec_l91Set.f k bs p) (s, (q : Int)) := by
  obtain ⟨s1, p1, hs1, hp1, e1⟩ := signs_draw h p 0 6 (by omega) (by omega) (by omega) (by omega)
  obtain ⟨s2, p2, hs2, hp2, e2⟩ := signs_draw h p1 1 5 (by omega) (by omega) (by omega) (by omega)
  obtain ⟨v, hv, e3⟩ := pick_ev h p2 24 (by omega) (by omega) (by omega)
  have z1 : (⟨#[40]⟩ : ByteArray).size = 1 := rfl
  have z2 : (⟨#[41]⟩ : ByteArray).size = 1 := rfl
  have z3 : (⟨#[40, 48, 41]⟩ : ByteArray).size = 3 := rfl
  have key : ∃ (s : ByteArray) (q : Nat), s.size ≤ 100 ∧ q ≤ p + 100 ∧ Ev (fun k => if (v : Int) = 0 then ((some (([(⟨#[]⟩ : ByteArray), (⟨#[48]⟩ : ByteArray), (⟨#[40, 41]⟩ : ByteArray), (⟨#[49, 40]⟩ : ByteArray), (⟨#[40, 48, 41, 41]⟩ : ByteArray), (⟨#[97, 40, 49, 41]⟩ : ByteArray), (⟨#[40, 49, 41, 48]⟩ : ByteArray), (⟨#[48, 49, 40, 48, 50, 41]⟩ : ByteArray), (⟨#[48, 40, 40, 49, 41]⟩ : ByteArray)] : List ByteArray) : List ByteArray)).bind fun y => ((spec_l6Rd_pick.f k bs ((p2 + 1 : Nat) : Int) 9).bind fun x => (if 0 ≤ x.1 then (if x.1 < (y.length : Int) then (some (rdOf ByteArray.empty y x.1, x.2)) else (none)) else (none)))) else (if (v : Int) = 1 then ((spec_l91Signs.f k bs ((p2 + 1 : Nat) : Int) 0 6).bind fun x => (if x.1.size + 3 ≤ 9223372036854775807 then (some (x.1 ++ (⟨#[40, 48, 41]⟩ : ByteArray), x.2)) else (none))) else (if (v : Int) = 2 then (if 1 ≤ ((((s1 ++ (⟨#[40]⟩ : ByteArray)) ++ s2) ++ (⟨#[41]⟩ : ByteArray)).size : Int) then (if 1 + ((((s1 ++ (⟨#[40]⟩ : ByteArray)) ++ s2) ++ (⟨#[41]⟩ : ByteArray)).extract 1 (((s1 ++ (⟨#[40]⟩ : ByteArray)) ++ s2) ++ (⟨#[41]⟩ : ByteArray)).size).size ≤ 9223372036854775807 then (some ((⟨#[40]⟩ : ByteArray) ++ ((((s1 ++ (⟨#[40]⟩ : ByteArray)) ++ s2) ++ (⟨#[41]⟩ : ByteArray)).extract 1 (((s1 ++ (⟨#[40]⟩ : ByteArray)) ++ s2) ++ (⟨#[41]⟩ : ByteArray)).size), ((p2 + 1 : Nat) : Int))) else (none)) else (none)) else (some (((s1 ++ (⟨#[40]⟩ : ByteArray)) ++ s2) ++ (⟨#[41]⟩ : ByteArray), ((p2 + 1 : Nat) : Int)))))) (s, (q : Int)) := by
    by_cases c0 : v = 0
    · obtain ⟨u, hu, e4⟩ := pick_ev h (p2 + 1) 9 (by omega) (by omega) (by omega)
      refine ⟨rdOf ByteArray.empty [(⟨#[]⟩ : ByteArray), (⟨#[48]⟩ : ByteArray), (⟨#[40, 41]⟩ : ByteArray), (⟨#[49, 40]⟩ : ByteArray), (⟨#[40, 48, 41, 41]⟩ : ByteArray), (⟨#[97, 40, 49, 41]⟩ : ByteArray), (⟨#[40, 49, 41, 48]⟩ : ByteArray), (⟨#[48, 49, 40, 48, 50, 41]⟩ : ByteArray), (⟨#[48, 40, 40, 49, 41]⟩ : ByteArray)] (u : Int), p2 + 1 + 1, ?_, by omega, ?_⟩
      · have : u = 0 ∨ u = 1 ∨ u = 2 ∨ u = 3 ∨ u = 4 ∨ u = 5 ∨ u = 6 ∨ u = 7 ∨ u = 8 := by omega
        rcases this with rfl | rfl | rfl | rfl | rfl | rfl | rfl | rfl | rfl <;> decide
      · simp only [if_pos (show (v : Int) = 0 from by omega), Option.bind_some]
        refine Ev.bind e4 (Ev.const fun k => ?_)
        rw [if_pos (by omega), if_pos (by simp; omega)]
    · simp only [if_neg (show ¬ (v : Int) = 0 from by omega)]
      by_cases c1 : v = 1
      · obtain ⟨s4, p4, hs4, hp4, e4⟩ := signs_draw h (p2 + 1) 0 6 (by omega) (by omega) (by omega) (by omega)
        refine ⟨s4 ++ ⟨#[40, 48, 41]⟩, p4, by rw [ByteArray.size_append, z3]; omega, by omega, ?_⟩
        simp only [if_pos (show (v : Int) = 1 from by omega)]
        refine Ev.bind e4 (Ev.const fun k => ?_)
        rw [if_pos (by show s4.size + 3 ≤ 9223372036854775807; omega)]
      · simp only [if_neg (show ¬ (v : Int) = 1 from by omega)]
        have hsz : (((s1 ++ (⟨#[40]⟩ : ByteArray)) ++ s2) ++ (⟨#[41]⟩ : ByteArray)).size = s1.size + 1 + s2.size + 1 := by
          rw [ByteArray.size_append, ByteArray.size_append, ByteArray.size_append, z1, z2]
        by_cases c2 : v = 2
        · simp only [if_pos (show (v : Int) = 2 from by omega)]
          have hx : ((((s1 ++ (⟨#[40]⟩ : ByteArray)) ++ s2) ++ (⟨#[41]⟩ : ByteArray)).extract 1 (((s1 ++ (⟨#[40]⟩ : ByteArray)) ++ s2) ++ (⟨#[41]⟩ : ByteArray)).size).size = s1.size + 1 + s2.size := by
            rw [ext_size _ _ _ (Nat.le_refl _), hsz]; omega
          refine ⟨(⟨#[40]⟩ : ByteArray) ++ ((((s1 ++ (⟨#[40]⟩ : ByteArray)) ++ s2) ++ (⟨#[41]⟩ : ByteArray)).extract 1 (((s1 ++ (⟨#[40]⟩ : ByteArray)) ++ s2) ++ (⟨#[41]⟩ : ByteArray)).size), p2 + 1, ?_, by omega, Ev.const fun k => ?_⟩
          · rw [ByteArray.size_append, z1, hx]; omega
          · rw [if_pos (by omega), if_pos (by omega)]
        · simp only [if_neg (show ¬ (v : Int) = 2 from by omega)]
          exact ⟨_, p2 + 1, by rw [hsz]; omega, by omega, Ev.now _⟩
  obtain ⟨s, q, g1, g2, g3⟩ := key
  refine ⟨s, q, g1, g2, ?_⟩
  unfold spec_l91Set.f
  refine Ev.bind e1 ?_
  simp only [if_pos (show s1.size + 1 ≤ 9223372036854775807 from by omega)]
  refine Ev.bind e2 ?_
  have w1 : s1.size + 1 + s2.size ≤ 9223372036854775807 := by omega
  have w2 : s1.size + 1 + s2.size + 1 ≤ 9223372036854775807 := by omega
  simp only [if_pos w1, if_pos w2]
  exact Ev.bind e3 g3

end Go.Proofs.Ytbepcaghlekbaaa.Q

namespace Go.Proofs.Ytbepcaghlekbaaa.Q
open Go.RowKit Go.Proofs.YtbepcaghlekbaaaW.PrintWords Go.Proofs.YtbepcaghlekbaaaW.PrintLast Go.Proofs.YtbepcaghlekbaaaW.PrintMore
open Go.Proofs.Ytbepcaghlekbaaa.Pl
set_option linter.unusedVariables false
set_option linter.unusedSimpArgs false
theorem listM_length (f : Nat → Bool) (n : Nat) : (listM f n).length = cnt f n := by
  induction n with
  | zero => rfl
  | succ n ih =>
    rw [listM_succ, cnt_succ]
    split
    · rw [List.length_append, ih]; rfl
    · rw [ih]; rfl
theorem cnt_congr {f g : Nat → Bool} (h : ∀ n, f n = g n) (n : Nat) : cnt f n = cnt g n := by
  induction n with
  | zero => rfl
  | succ n ih => rw [cnt_succ, cnt_succ, ih, h]
theorem cnt_sub {f g : Nat → Bool} (h : ∀ n, f n = true → g n = true) (n : Nat) : cnt f n ≤ cnt g n := by
  induction n with
  | zero => exact Nat.le_refl _
  | succ n ih =>
    rw [cnt_succ, cnt_succ]
    by_cases c : f n = true
    · rw [if_pos c, if_pos (h n c)]; omega
    · rw [if_neg c]; omega
theorem setCount_small {s : ByteArray} {t r : List Bool} (h : IsSmall s t r) (n : Nat) (hn : n ≤ 1000) : Ev (fun k => impl_SetCount.f k s n) (((cnt (hasB t r) n : Nat) : Int), true) := by
  obtain ⟨t0, r0, h0, h1⟩ := h.has
  have hin : impl_in.f n 0 1000 = some true := by rw [in_eq', decide_eq_true (by omega)]
  have k1 : Ev (fun k => impl_SetList.f k s n) (listM (hasB t0 r0) n, true) := by
    unfold impl_SetList.f
    rw [h0.impl]
    refine Ev.eq (funext fun k => Option.bind_some ..) (Ev.eq (funext fun k => if_pos rfl) (Ev.bind (Ev.const fun _ => hin) (Ev.eq (funext fun k => if_pos rfl) ?_)))
    exact Ev.bind (below_ev h0.good n (by omega)) (Ev.now _)
  unfold impl_SetCount.f
  refine Ev.bind k1 (Ev.const fun k => ?_)
  rw [listM_length, cnt_congr h1]
theorem drawSolveTwo_ev (l0 : List Int) (h : ∀ x ∈ l0, (Lit.int .u8 x).wf = true) : ∃ (s u : ByteArray) (n : Int), s.size ≤ 1000 ∧ u.size ≤ 1000 ∧ -1 ≤ n ∧ n ≤ 501 ∧ Ev (fun k => spec_DrawSolveTwo.f k l0) (s, u, n) := by
  obtain ⟨bs, hb, eo⟩ := open_ev l0 h
  obtain ⟨s, q, g1, g2, g3⟩ := set_draw hb 0 (by omega)
  obtain ⟨s2, q2, f1, f2, f3⟩ := set_draw hb q (by omega)
  obtain ⟨a, ha, e1⟩ := pick_ev hb q2 40 (by omega) (by omega) (by omega)
  obtain ⟨b, hb2, e2⟩ := pick_ev hb (q2 + 1) 250 (by omega) (by omega) (by omega)
  obtain ⟨d, hd, e4⟩ := pick_ev hb (q2 + 1 + 1) 5 (by omega) (by omega) (by omega)
  have hr : -1 ≤ rd ([(a : Int), (b : Int), 500, 501, (-1)] : List Int) (d : Int) ∧ rd ([(a : Int), (b : Int), 500, 501, (-1)] : List Int) (d : Int) ≤ 501 := by
    have : d = 0 ∨ d = 1 ∨ d = 2 ∨ d = 3 ∨ d = 4 := by omega
    rcases this with rfl | rfl | rfl | rfl | rfl <;> simp [rd] <;> omega
  refine ⟨s, s2, rd ([(a : Int), (b : Int), 500, 501, (-1)] : List Int) (d : Int), by omega, by omega, hr.1, hr.2, ?_⟩
  unfold spec_DrawSolveTwo.f
  rw [eo]; simp only [Option.bind_some]
  refine Ev.bind g3 (Ev.bind f3 (Ev.bind e1 (Ev.bind e2 (Ev.bind e4 (Ev.const fun k => ?_)))))
  rw [if_pos (by omega), if_pos (by simp; omega)]

end Go.Proofs.Ytbepcaghlekbaaa.Q

namespace Go.Proofs.Ytbepcaghlekbaaa.Pure
open Go.RowKit Go.Proofs.Ytbepcaghlekbaaa.Q Go.Proofs.YtbepcaghlekbaaaW.PrintWords Go.Proofs.YtbepcaghlekbaaaW.PrintLast
open Go.Proofs.Ytbepcaghlekbaaa.Pl
set_option linter.unusedSimpArgs false
set_option linter.unusedVariables false
theorem FnSolveTwo : laws_FnSolveTwo.Pure := by
  intro l0 h1 h2 h
  by_cases hz : (l0.length : Int) > 1048576
  · exact ⟨0, by unfold laws_FnSolveTwo.f; rw [if_pos hz]⟩
  obtain ⟨s, u, n, hs, hu, n1, n2, hd⟩ := drawSolveTwo_ev l0 h
  refine Ev.rounds ?_
  unfold laws_FnSolveTwo.f
  refine Ev.eq (funext fun k => if_neg hz) (Ev.bind hd ?_)
  have cs := small_cases s (by omega)
  have cu := small_cases u (by omega)
  by_cases hx : (NoSmall s ∨ NoSmall u) ∨ ¬ (0 ≤ n ∧ n ≤ 500)
  · obtain ⟨e1, e2⟩ := solveTwo_no cs cu hx
    refine Ev.bind e1 (Ev.bind e2 (Ev.eq (funext fun k => if_pos rfl) ?_))
    exact Ev.step (f := fun k => laws_FnSolveTwo.j1 k s u n 0 true true) (fun k => by simp only [laws_FnSolveTwo.j0, beq_self_eq_true, if_true, Bool.not_false]) (Ev.end fun k => by simp only [laws_FnSolveTwo.j1, if_true])
  · rcases cs with g | ⟨t, r, g⟩
    · exact absurd (Or.inl (Or.inl g)) hx
    · rcases cu with g2 | ⟨t2, r2, g2⟩
      · exact absurd (Or.inl (Or.inr g2)) hx
      · have hn2 : 0 ≤ n ∧ n ≤ 500 := Decidable.byContradiction fun k => hx (Or.inr k)
        obtain ⟨m, rfl⟩ : ∃ m : Nat, n = (m : Int) := ⟨n.toNat, by omega⟩
        have hc := cnt_le (two t r t2 r2) m
        have hsub : cnt (hasB t2 r2) m ≤ cnt (two t r t2 r2) m := cnt_sub (fun i hi => (two_iff t r t2 r2 i).2 (.inl hi)) m
        have e : wrap64 ((m : Int) + 1) = ((m + 1 : Nat) : Int) := wr1 (by omega)
        have e3 : wrap64 (((cnt (two t r t2 r2) m : Nat) : Int) + 1) = ((cnt (two t r t2 r2) m + 1 : Nat) : Int) := wr1 (by omega)
        have hdec : decide (((cnt (hasB t2 r2) m : Nat) : Int) ≤ ((cnt (two t r t2 r2) m : Nat) : Int)) = true := decide_eq_true (by omega)
        have hle : ((cnt (two t r t2 r2) m : Nat) : Int) ≤ (m : Int) := by omega
        refine Ev.bind (solveTwo_impl g g2 m (by omega)) (Ev.bind (solveTwo_spec g g2 m (by omega)) (Ev.eq (funext fun k => if_pos rfl) ?_))
        have kc := setCount_small g2 m (by omega)
        generalize hC : cnt (two t r t2 r2) m = C at *
        generalize hD : cnt (hasB t2 r2) m = D at *
        have last : ∀ x : Int × Bool, (x.2 = true → x.1 = (C : Int) ∨ x.1 = ((C + 1 : Nat) : Int)) → Ev (fun k => impl_SolveTwo.f k s u ((m + 1 : Nat) : Int)) x → Ev (fun k => laws_FnSolveTwo.j1 k s u m (C : Nat) true false) true := by
          intro x hxx k1
          refine Ev.step (f := fun k => (impl_SolveTwo.f k s u ((m + 1 : Nat) : Int)).bind fun a => (impl_SetCount.f k u m).bind fun b => (if a.2 = true then (if a.1 = (C : Int) then (if (C : Int) ≤ (m : Int) then (if b.2 = true then (some (decide (b.1 ≤ (C : Int)))) else (some true)) else (some false)) else (if a.1 = ((C + 1 : Nat) : Int) then (if (C : Int) ≤ (m : Int) then (if b.2 = true then (some (decide (b.1 ≤ (C : Int)))) else (some true)) else (some false)) else (some false))) else (if (C : Int) ≤ (m : Int) then (if b.2 = true then (some (decide (b.1 ≤ (C : Int)))) else (some true)) else (some false)))) (fun k => by simp only [laws_FnSolveTwo.j1, Bool.false_eq_true, if_false, e, e3]) ?_
          refine Ev.bind k1 (Ev.bind kc (Ev.const fun k => ?_))
          simp only [if_true, if_pos hle, hdec]
          by_cases c : x.2 = true
          · rw [if_pos c]
            by_cases c1 : x.1 = (C : Int)
            · rw [if_pos c1]
            · rw [if_neg c1, if_pos ((hxx c).resolve_left c1)]
          · rw [if_neg c]
        refine Ev.step (f := fun k => laws_FnSolveTwo.j1 k s u m (C : Nat) true false) (fun k => by simp only [laws_FnSolveTwo.j0, beq_self_eq_true, if_true, Bool.not_true]) ?_
        by_cases c : m + 1 ≤ 500
        · refine last _ (fun _ => ?_) (solveTwo_impl g g2 (m + 1) c)
          rw [cnt_succ, hC]
          split
          · exact .inr rfl
          · exact .inl rfl
        · exact last (0, false) (fun h => absurd h (by simp)) (solveTwo_no (.inr ⟨t, r, g⟩) (.inr ⟨t2, r2, g2⟩) (.inr (by omega))).1

end Go.Proofs.Ytbepcaghlekbaaa.Pure
