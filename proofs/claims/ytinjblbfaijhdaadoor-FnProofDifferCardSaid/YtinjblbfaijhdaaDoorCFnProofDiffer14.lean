/- The law FnProofDiffer holds for all that it draws. -/
import Derived.Lib.ItoaNum
import Derived.Test.YtinjblbfaijhdaaDoorCFnProofDiffer10
import Derived.Test.YtinjblbfaijhdaaDoorCFnProofDiffer11
import Derived.Test.YtinjblbfaijhdaaDoorCFnProofDiffer12
import Derived.Test.YtinjblbfaijhdaaDoorCFnProofDiffer13
namespace Go.Proofs.YtinjblbfaijhdaaDoor.Q
open Go.RowKit Go.Proofs.YtinjblbfaijhdaaDoorW.PrintWords Go.Proofs.YtinjblbfaijhdaaDoorW.PrintLast Go.Proofs.YtinjblbfaijhdaaDoorW.PrintMore
open Go.Proofs.YtinjblbfaijhdaaDoor.Pl
set_option linter.unusedVariables false
set_option linter.unusedSimpArgs false
def dec (n : Nat) : ByteArray := ⟨(Lib.decDigits n).toArray⟩
theorem ba_ext' {a b : ByteArray} (h : a.data.toList = b.data.toList) : a = b := by
  cases a; cases b; simp only at h; congr; exact Array.toList_inj.1 h
theorem dec_len (n : Nat) : (Lib.decDigits n).length ≤ n + 1 := by
  induction n using Nat.strongRecOn with
  | ind n ih =>
    rw [Lib.decDigits]
    split
    · simp
    · have := ih (n / 10) (by omega)
      simp only [List.length_append, List.length_cons, List.length_nil]
      omega
theorem dec_size (n : Nat) : (dec n).size ≤ n + 1 := dec_len n
theorem dec_ev (n : Nat) (hn : n ≤ 1000000000) : Ev (fun k => spec_l6Dec.f k n) (dec n) := by
  induction n using Nat.strongRecOn with
  | ind n ih =>
    by_cases c : n < 10
    · refine Ev.end fun k => ?_
      simp only [spec_l6Dec.f]
      rw [if_neg (by omega), if_neg (by omega), if_pos (by omega), wr (x := 48 + (n : Int)) (by omega) (by omega)]
      congr 1
      refine ba_ext' ?_
      show ([(48 + (n : Int)) % 256].map fun x : Int => UInt8.ofNat x.toNat) = Lib.decDigits n
      rw [Lib.decDigits, dif_pos c]
      have : ((48 + (n : Int)) % 256).toNat = 48 + n := by omega
      simp only [List.map_cons, List.map_nil, this]
    · have k1 := ih (n / 10) (by omega) (by omega)
      refine Ev.step (f := fun k => (spec_l6Dec.f k ((n / 10 : Nat) : Int)).bind fun t => if t.size + (strOfNums [48 + ((n % 10 : Nat) : Int)]).size ≤ 9223372036854775807 then some (t ++ strOfNums [48 + ((n % 10 : Nat) : Int)]) else none) (fun k => ?_) ?_
      · simp only [spec_l6Dec.f]
        rw [if_neg (by omega), if_neg (by omega), if_neg (by omega), show Int.tdiv (n : Int) 10 = ((n / 10 : Nat) : Int) from tdiv_nat n 10, show Int.tmod (n : Int) 10 = ((n % 10 : Nat) : Int) from tmod_nat n 10, wr (x := ((n / 10 : Nat) : Int)) (by omega) (by omega), wr (x := 48 + ((n % 10 : Nat) : Int)) (by omega) (by omega)]
        have : (48 + ((n % 10 : Nat) : Int)) % 256 = 48 + ((n % 10 : Nat) : Int) := by omega
        rw [this]
        rfl
      · refine Ev.bind k1 (Ev.const fun k => ?_)
        have h1 := dec_size (n / 10)
        have h2 : (strOfNums [48 + ((n % 10 : Nat) : Int)]).size = 1 := rfl
        rw [if_pos (by omega)]
        congr 1
        refine ba_ext' ?_
        have e : (48 + ((n % 10 : Nat) : Int)).toNat = 48 + n % 10 := by omega
        rw [ByteArray.data_append, Array.toList_append]
        show Lib.decDigits (n / 10) ++ ([48 + ((n % 10 : Nat) : Int)].map fun x : Int => UInt8.ofNat x.toNat) = Lib.decDigits n
        rw [Lib.decDigits.eq_def n, dif_neg c]
        simp only [List.map_cons, List.map_nil, e]
theorem itoa_eq (n : Nat) (hn : n ≤ 1000000000) : strconv_Itoa_68.f n = some (dec n) := by
  unfold strconv_Itoa_68.f
  rw [if_pos (by omega), Lib.itoa, if_neg (by omega), Int.toNat_natCast]
  rfl
/-- A word, and numbers, each one behind a space. -/
def wordsB (x : ByteArray) : List Nat → ByteArray
  | [] => x
  | n :: l => wordsB (x ++ (⟨#[32]⟩ : ByteArray) ++ dec n) l
theorem rd_at (l : List Nat) (i : Nat) (h : i < l.length) : rd (l.map fun y : Nat => (y : Int)) (i : Int) = ((l[i] : Nat) : Int) := by
  simp [rd, h]
theorem words_ev (l : List Nat) (hl : l.length ≤ 100000) (hb : ∀ n ∈ l, n ≤ 100000) (d : Nat) : ∀ (i : Nat) (x : ByteArray), i + d = l.length → x.size ≤ 1000 + i * 200000 →
    Ev (fun k => impl_proofText.l0 k x (l.map fun y : Nat => (y : Int)) (l.length : Nat) (i : Nat)) (wordsB x (l.drop i)) ∧ Ev (fun k => spec_l11Words.l0 k x (l.map fun y : Nat => (y : Int)) (i : Nat)) (wordsB x (l.drop i)) := by
  induction d with
  | zero =>
    intro i x hi hx
    rw [List.drop_eq_nil_of_le (by omega)]
    constructor
    · refine Ev.end fun k => ?_
      simp only [impl_proofText.l0]
      rw [if_neg (by omega)]; rfl
    · refine Ev.end fun k => ?_
      simp only [spec_l11Words.l0, List.length_map]
      rw [if_neg (by omega)]; rfl
  | succ d ih =>
    intro i x hi hx
    have hil : i < l.length := by omega
    have hm := hb l[i] (List.getElem_mem hil)
    have hs := dec_size l[i]
    have e : l.drop i = l[i] :: l.drop (i + 1) := (List.getElem_cons_drop hil).symm
    have hsz : (x ++ (⟨#[32]⟩ : ByteArray) ++ dec l[i]).size = x.size + 1 + (dec l[i]).size := by
      rw [ByteArray.size_append, ByteArray.size_append]; rfl
    obtain ⟨k1, k2⟩ := ih (i + 1) (x ++ (⟨#[32]⟩ : ByteArray) ++ dec l[i]) (by omega) (by omega)
    rw [e]
    have ea : x ++ ((⟨#[32]⟩ : ByteArray) ++ dec l[i]) = x ++ (⟨#[32]⟩ : ByteArray) ++ dec l[i] := ba_ext' (by simp [ByteArray.data_append])
    constructor
    · refine Ev.step (fun k => ?_) k1
      simp only [impl_proofText.l0, List.length_map]
      rw [if_pos (by omega), if_pos (by omega), if_pos (by omega), rd_at l i hil, itoa_eq _ (by omega)]
      simp only [Option.bind_some]
      rw [if_pos (by omega), if_pos (by omega), wr1 (by omega), ea]
    · refine Ev.step (f := fun k => (spec_l6Dec.f k ((l[i] : Nat) : Int)).bind fun t => if x.size + 1 + t.size ≤ 9223372036854775807 then spec_l11Words.l0 k (x ++ (⟨#[32]⟩ : ByteArray) ++ t) (l.map fun y : Nat => (y : Int)) ((i + 1 : Nat) : Int) else none) (fun k => ?_) ?_
      · simp only [spec_l11Words.l0, List.length_map]
        rw [if_pos (by omega), if_pos (by omega), if_pos (by omega), rd_at l i hil, wr1 (by omega)]
      · have hc : x.size + 1 + (dec l[i]).size ≤ 9223372036854775807 := by omega
        refine Ev.bind (dec_ev _ (by omega)) ?_
        simp only [if_pos hc]
        exact k2
/-- What both writers make of a word and numbers. -/
theorem words_both (x : ByteArray) (hx : x.size ≤ 1000) (l : List Nat) (hl : l.length ≤ 100000) (hb : ∀ n ∈ l, n ≤ 100000) :
    Ev (fun k => impl_proofText.f k x (l.map fun y : Nat => (y : Int))) (wordsB x l) ∧ Ev (fun k => spec_l11Words.f k x (l.map fun y : Nat => (y : Int))) (wordsB x l) := by
  obtain ⟨k1, k2⟩ := words_ev l hl hb l.length 0 x (Nat.zero_add _) (by omega)
  constructor
  · unfold impl_proofText.f
    rw [List.length_map]
    exact k1
  · exact k2


theorem mx_nat3 (a b : Nat) : mx (a : Int) (b : Int) = ((max a b : Nat) : Int) := by unfold mx; split <;> omega
theorem lcm_eq3 (p q : Nat) : p / Nat.gcd p q * q = Nat.lcm p q := by
  unfold Nat.lcm
  rw [Nat.mul_comm p q, Nat.mul_div_assoc _ (Nat.gcd_dvd_left p q), Nat.mul_comm]
theorem lcm_ev3 {p q : Nat} (hp : 1 ≤ p) (hp2 : p ≤ 60) (hq2 : q ≤ 60) : Ev (fun k => impl_lcm.f k (p : Int) (q : Int)) ((Nat.lcm p q : Nat) : Int) := by
  have hg : 0 < Nat.gcd p q := Nat.gcd_pos_of_pos_left _ hp
  have hd := Nat.div_le_self p (Nat.gcd p q)
  have hm : p / Nat.gcd p q * q ≤ 60 * 60 := Nat.mul_le_mul (by omega) hq2
  have he := lcm_eq3 p q
  unfold impl_lcm.f
  refine Ev.bind (gcd_ev q p) (Ev.const fun k => ?_)
  rw [if_neg (by omega), tdiv_nat]
  generalize Nat.gcd p q = g at *
  generalize p / g = a at *
  rw [wr (x := (a : Int)) (by omega) (by omega), ← Int.natCast_mul, he, wr (by omega) (by omega)]
theorem lcm_le3 {p q : Nat} (hp : p ≤ 60) (hq : q ≤ 60) : Nat.lcm p q ≤ 3600 := by
  rw [← lcm_eq3]
  have h1 : p / Nat.gcd p q * q ≤ 60 * 60 := Nat.mul_le_mul (Nat.le_trans (Nat.div_le_self _ _) hp) hq
  omega
theorem both_ev3 {ta ra tb rb : List Bool} (ha : Good ta ra) (hb : Good tb rb) : Ev (fun k => impl_both.f k ta ra tb rb) (((max ta.length tb.length : Nat) : Int), ((Nat.lcm ra.length rb.length : Nat) : Int)) := by
  unfold impl_both.f
  refine Ev.bind (lcm_ev3 ha.pos ha.rl hb.rl) (Ev.const fun k => ?_)
  rw [mx_nat3]
theorem divisor_ev3 (b : Nat) : ∀ a : Nat, Ev (fun k => spec_l1Divisor.f k (a : Int) (b : Int)) ((Nat.gcd a b : Nat) : Int) := by
  induction b using Nat.strongRecOn with
  | _ b ih =>
    intro a
    by_cases c : b = 0
    · subst c
      refine Ev.end fun k => ?_
      simp only [spec_l1Divisor.f, spec_l1Divisor.l0]
      rw [if_neg (by omega), Nat.gcd_zero_right]
    · have h1 := ih (a % b) (Nat.mod_lt _ (by omega)) b
      rw [Nat.gcd_comm b, ← Nat.gcd_rec, Nat.gcd_comm] at h1
      refine Ev.step (fun k => ?_) h1
      simp only [spec_l1Divisor.f, spec_l1Divisor.l0]
      rw [if_pos (by omega), if_neg (by omega), tmod_nat]
theorem shape_ev3 {ta ra tc rc : List Bool} (ha : Good ta ra) (hc : Good tc rc) : Ev (fun k => spec_l1Shape.f k ta ra tc rc) (((max ta.length tc.length : Nat) : Int), ((Nat.lcm ra.length rc.length : Nat) : Int)) := by
  have hg : 0 < Nat.gcd ra.length rc.length := Nat.gcd_pos_of_pos_left _ ha.pos
  have hd := Nat.div_le_self ra.length (Nat.gcd ra.length rc.length)
  have h1 := ha.rl
  have h2 := hc.rl
  have hm : ra.length / Nat.gcd ra.length rc.length * rc.length ≤ 60 * 60 := Nat.mul_le_mul (by omega) h2
  have he := lcm_eq3 ra.length rc.length
  unfold spec_l1Shape.f
  refine Ev.bind (divisor_ev3 rc.length ra.length) (Ev.const fun k => ?_)
  rw [if_neg (by omega), mx_nat3, ← Int.natCast_ediv]
  generalize Nat.gcd ra.length rc.length = g at *
  generalize ra.length / g = p at *
  rw [wr (x := (p : Int)) (by omega) (by omega), ← Int.natCast_mul, he, wr (by omega) (by omega)]

def first_ : ByteArray := ⟨#[102, 105, 114, 115, 116]⟩
def second_ : ByteArray := ⟨#[115, 101, 99, 111, 110, 100]⟩
/-- The proof that two sets differ, looked for from i on. -/
def differ (f g : Nat → Bool) (N : Nat) : Nat → ByteArray × Bool
  | 0 => ((⟨#[]⟩ : ByteArray), false)
  | d + 1 => if f (N - (d + 1)) = true ∧ g (N - (d + 1)) = false then (wordsB first_ [N - (d + 1)], true)
    else if g (N - (d + 1)) = true ∧ f (N - (d + 1)) = false then (wordsB second_ [N - (d + 1)], true) else differ f g N d
theorem one_word (x : ByteArray) (hx : x.size ≤ 1000) (n : Nat) (hn : n ≤ 100000) : Ev (fun k => impl_proofText.f k x ([(n : Int)] : List Int)) (wordsB x [n]) ∧ Ev (fun k => spec_l11Words.f k x ([(n : Int)] : List Int)) (wordsB x [n]) :=
  words_both x hx [n] (by simp) (fun m hm => by simp at hm; omega)
theorem differ_l0 {ta ra tb rb : List Bool} (ha : Good ta ra) (hb : Good tb rb) (T L : Nat) (hN : T + L ≤ 10000) (d : Nat) : ∀ i, i + d = T + L →
    Ev (fun k => impl_ProofDiffer.l0 k ((T + L : Nat) : Int) (i : Nat) ta ra tb rb) (differ (hasB ta ra) (hasB tb rb) (T + L) d) ∧ Ev (fun k => spec_ProofDiffer.l0 k (T : Nat) (L : Nat) (i : Nat) ta ra tb rb) (differ (hasB ta ra) (hasB tb rb) (T + L) d) := by
  have hw : wrap64 ((T : Int) + (L : Int)) = ((T + L : Nat) : Int) := by rw [wr (by omega) (by omega)]; omega
  induction d with
  | zero =>
    intro i hi
    constructor
    · refine Ev.end fun k => ?_
      simp only [impl_ProofDiffer.l0]
      rw [if_neg (by omega)]; rfl
    · refine Ev.end fun k => ?_
      simp only [spec_ProofDiffer.l0]
      rw [hw, if_neg (by omega)]; rfl
  | succ d ih =>
    intro i hi
    obtain ⟨k1, k2⟩ := ih (i + 1) (by omega)
    have ei : T + L - (d + 1) = i := by omega
    have h1 := set_has ha i (by omega)
    have h2 := set_has hb i (by omega)
    have g1 := l1_has ha i (by omega)
    have g2 := l1_has hb i (by omega)
    obtain ⟨f1, f2⟩ := one_word first_ (by decide) i (by omega)
    obtain ⟨s1, s2⟩ := one_word second_ (by decide) i (by omega)
    have hi1 : (i : Int) < ((T + L : Nat) : Int) := by omega
    simp only [differ, ei]
    constructor
    · cases c1 : hasB ta ra i with
      | true =>
        cases c2 : hasB tb rb i with
        | true =>
          simp only [Bool.true_eq_false, and_false, if_false]
          refine Ev.step (f := fun k => impl_ProofDiffer.j2 k i ((T + L : Nat) : Int) i false ta ra tb rb) (fun k => by simp only [impl_ProofDiffer.l0, if_pos hi1, h1, h2, c1, c2, Option.bind_some, if_true, Bool.not_true]) ?_
          refine Ev.step (fun k => by simp only [impl_ProofDiffer.j2, h1, h2, c1, c2, Option.bind_some, if_true, Bool.false_eq_true, if_false, wr1 (show i ≤ 4611686018427387904 by omega)]) k1
        | false =>
          simp only [and_self, if_true]
          refine Ev.step (f := fun k => impl_ProofDiffer.j2 k i ((T + L : Nat) : Int) i true ta ra tb rb) (fun k => by simp only [impl_ProofDiffer.l0, if_pos hi1, h1, h2, c1, c2, Option.bind_some, if_true, Bool.not_false]) ?_
          refine Ev.step (f := fun k => (impl_proofText.f k first_ ([(i : Int)] : List Int)).bind fun t => some (t, true)) (fun k => by simp only [impl_ProofDiffer.j2, if_true]; rfl) ?_
          exact Ev.bind f1 (Ev.now _)
      | false =>
        cases c2 : hasB tb rb i with
        | true =>
          simp only [Bool.false_eq_true, false_and, if_false, and_self, if_true]
          refine Ev.step (f := fun k => impl_ProofDiffer.j2 k i ((T + L : Nat) : Int) i false ta ra tb rb) (fun k => by simp only [impl_ProofDiffer.l0, if_pos hi1, h1, c1, Option.bind_some, Bool.false_eq_true, if_false]) ?_
          refine Ev.step (f := fun k => (impl_proofText.f k second_ ([(i : Int)] : List Int)).bind fun t => some (t, true)) (fun k => by simp only [impl_ProofDiffer.j2, h1, h2, c1, c2, Option.bind_some, if_true, Bool.false_eq_true, if_false]; rfl) ?_
          exact Ev.bind s1 (Ev.now _)
        | false =>
          simp only [Bool.false_eq_true, false_and, if_false]
          refine Ev.step (f := fun k => impl_ProofDiffer.j2 k i ((T + L : Nat) : Int) i false ta ra tb rb) (fun k => by simp only [impl_ProofDiffer.l0, if_pos hi1, h1, c1, Option.bind_some, Bool.false_eq_true, if_false]) ?_
          refine Ev.step (fun k => by simp only [impl_ProofDiffer.j2, h2, c2, Option.bind_some, Bool.false_eq_true, if_false, wr1 (show i ≤ 4611686018427387904 by omega)]) k1
    · cases c1 : hasB ta ra i with
      | true =>
        cases c2 : hasB tb rb i with
        | true =>
          simp only [Bool.true_eq_false, and_false, if_false]
          refine Ev.step (f := fun k => spec_ProofDiffer.j2 k (T : Nat) (L : Nat) i false ta ra tb rb) (fun k => by simp only [spec_ProofDiffer.l0, hw, if_pos hi1, g1, g2, c1, c2, Option.bind_some, if_true, Bool.not_true]) ?_
          refine Ev.step (fun k => by simp only [spec_ProofDiffer.j2, g1, g2, c1, c2, Option.bind_some, if_true, Bool.false_eq_true, if_false, wr1 (show i ≤ 4611686018427387904 by omega)]) k2
        | false =>
          simp only [and_self, if_true]
          refine Ev.step (f := fun k => spec_ProofDiffer.j2 k (T : Nat) (L : Nat) i true ta ra tb rb) (fun k => by simp only [spec_ProofDiffer.l0, hw, if_pos hi1, g1, g2, c1, c2, Option.bind_some, if_true, Bool.not_false]) ?_
          refine Ev.step (f := fun k => (spec_l11Words.f k first_ ([(i : Int)] : List Int)).bind fun t => some (t, true)) (fun k => by simp only [spec_ProofDiffer.j2, if_true]; rfl) ?_
          exact Ev.bind f2 (Ev.now _)
      | false =>
        cases c2 : hasB tb rb i with
        | true =>
          simp only [Bool.false_eq_true, false_and, if_false, and_self, if_true]
          refine Ev.step (f := fun k => spec_ProofDiffer.j2 k (T : Nat) (L : Nat) i false ta ra tb rb) (fun k => by simp only [spec_ProofDiffer.l0, hw, if_pos hi1, g1, c1, Option.bind_some, Bool.false_eq_true, if_false]) ?_
          refine Ev.step (f := fun k => (spec_l11Words.f k second_ ([(i : Int)] : List Int)).bind fun t => some (t, true)) (fun k => by simp only [spec_ProofDiffer.j2, g1, g2, c1, c2, Option.bind_some, if_true, Bool.false_eq_true, if_false]; rfl) ?_
          exact Ev.bind s2 (Ev.now _)
        | false =>
          simp only [Bool.false_eq_true, false_and, if_false]
          refine Ev.step (f := fun k => spec_ProofDiffer.j2 k (T : Nat) (L : Nat) i false ta ra tb rb) (fun k => by simp only [spec_ProofDiffer.l0, hw, if_pos hi1, g1, c1, Option.bind_some, Bool.false_eq_true, if_false]) ?_
          refine Ev.step (fun k => by simp only [spec_ProofDiffer.j2, g2, c2, Option.bind_some, Bool.false_eq_true, if_false, wr1 (show i ≤ 4611686018427387904 by omega)]) k2
/-- Two sets: both functions answer the same proof. -/
theorem proofDiffer_yes {s u : ByteArray} {ta ra tb rb : List Bool} (h : IsSet s ta ra) (h2 : IsSet u tb rb) : ∃ x, Ev (fun k => impl_ProofDiffer.f k s u) x ∧ Ev (fun k => spec_ProofDiffer.f k s u) x ∧ x = differ (hasB ta ra) (hasB tb rb) (max ta.length tb.length + Nat.lcm ra.length rb.length) (max ta.length tb.length + Nat.lcm ra.length rb.length) := by
  have g := h.good
  have g2 := h2.good
  have l1 := lcm_le3 g.rl g2.rl
  have a1 := g.tl
  have a2 := g2.tl
  have b1 := both_ev3 g g2
  have b2 := shape_ev3 g g2
  have hT : max ta.length tb.length ≤ 60 := by omega
  generalize Nat.lcm ra.length rb.length = L at *
  generalize max ta.length tb.length = T at *
  obtain ⟨k1, k2⟩ := differ_l0 g g2 T L (by omega) (T + L) 0 (Nat.zero_add _)
  have hw : wrap64 ((T : Int) + (L : Int)) = ((T + L : Nat) : Int) := by rw [wr (by omega) (by omega)]; omega
  refine ⟨_, ?_, ?_, rfl⟩
  · unfold impl_ProofDiffer.f
    rw [h.impl, h2.impl]
    simp only [Option.bind_some, if_true, Bool.not_true]
    refine Ev.step (f := fun k => (impl_both.f k ta ra tb rb).bind fun x => impl_ProofDiffer.l0 k (wrap64 (x.1 + x.2)) 0 ta ra tb rb) (fun k => by simp only [impl_ProofDiffer.j0, Bool.false_eq_true, if_false]) ?_
    refine Ev.bind b1 ?_
    simp only [hw]
    exact k1
  · unfold spec_ProofDiffer.f
    refine Ev.bind h.spec (Ev.bind h2.spec ?_)
    simp only [if_true, Bool.not_true]
    refine Ev.step (f := fun k => (spec_l1Shape.f k ta ra tb rb).bind fun x => spec_ProofDiffer.l0 k x.1 x.2 0 ta ra tb rb) (fun k => by simp only [spec_ProofDiffer.j0, Bool.false_eq_true, if_false]) ?_
    exact Ev.bind b2 k2
theorem proofDiffer_no {s u : ByteArray} (hs : NoSet s ∨ ∃ t r, IsSet s t r) (hu : NoSet u ∨ ∃ t r, IsSet u t r) (h : NoSet s ∨ NoSet u) : Ev (fun k => impl_ProofDiffer.f k s u) ((⟨#[]⟩ : ByteArray), false) ∧ Ev (fun k => spec_ProofDiffer.f k s u) ((⟨#[]⟩ : ByteArray), false) := by
  have f1 : ∀ (x : Bool) a b c d, x = true → Ev (fun k => impl_ProofDiffer.j0 k x a b c d) ((⟨#[]⟩ : ByteArray), false) := fun x a b c d hx => Ev.end fun k => by simp only [impl_ProofDiffer.j0]; rw [if_pos hx]
  have f2 : ∀ (x : Bool) a b c d, x = true → Ev (fun k => spec_ProofDiffer.j0 k x a b c d) ((⟨#[]⟩ : ByteArray), false) := fun x a b c d hx => Ev.end fun k => by simp only [spec_ProofDiffer.j0]; rw [if_pos hx]
  have i : ∀ w : ByteArray, (NoSet w ∨ ∃ t r, IsSet w t r) → ∃ a b o, impl_setOf.f w = some (a, b, o) ∧ (NoSet w → o = false) := by
    rintro w (k | ⟨t, r, k⟩)
    · obtain ⟨⟨a, b, e⟩, _⟩ := k
      exact ⟨a, b, false, e, fun _ => rfl⟩
    · refine ⟨t, r, true, k.impl, fun n => ?_⟩
      obtain ⟨⟨a, b, e⟩, _⟩ := n
      rw [k.impl] at e
      simp at e
  have j : ∀ w : ByteArray, (NoSet w ∨ ∃ t r, IsSet w t r) → ∃ a b o, Ev (fun k => spec_l1Read.f k w) (a, b, o) ∧ (NoSet w → o = false) := by
    rintro w (k | ⟨t, r, k⟩)
    · obtain ⟨_, ⟨a, b, e⟩⟩ := k
      exact ⟨a, b, false, e, fun _ => rfl⟩
    · refine ⟨t, r, true, k.spec, fun n => ?_⟩
      obtain ⟨_, ⟨a, b, e⟩⟩ := n
      have := Ev.unique k.spec e
      simp at this
  constructor
  · obtain ⟨a, b, o, e1, n1⟩ := i s hs
    obtain ⟨c, d, o', e2, n2⟩ := i u hu
    unfold impl_ProofDiffer.f
    rw [e1, e2]
    simp only [Option.bind_some]
    cases o with
    | false => simp only [Bool.false_eq_true, if_false]; exact f1 _ _ _ _ _ rfl
    | true =>
      simp only [if_true]
      refine f1 _ _ _ _ _ ?_
      rcases h with h | h
      · cases n1 h
      · rw [n2 h]; rfl
  · obtain ⟨a, b, o, e1, n1⟩ := j s hs
    obtain ⟨c, d, o', e2, n2⟩ := j u hu
    unfold spec_ProofDiffer.f
    refine Ev.bind e1 (Ev.bind e2 ?_)
    cases o with
    | false => simp only [Bool.false_eq_true, if_false]; exact f2 _ _ _ _ _ rfl
    | true =>
      simp only [if_true]
      refine f2 _ _ _ _ _ ?_
      rcases h with h | h
      · cases n1 h
      · rw [n2 h]; rfl

end Go.Proofs.YtinjblbfaijhdaaDoor.Q
