/- The law FnProofRestIs holds for all that it draws. -/
import Derived.Lib.ItoaNum
import Derived.Test.YtinjblbfaijhdaaDoorCFnProofRestIs9
import Derived.Test.YtinjblbfaijhdaaDoorCFnProofRestIs10
import Derived.Test.YtinjblbfaijhdaaDoorCFnProofRestIs11
import Derived.Test.YtinjblbfaijhdaaDoorCFnProofRestIs13
import Derived.Test.YtinjblbfaijhdaaDoorCFnProofRestIs14
namespace Go.Proofs.YtinjblbfaijhdaaDoor.Q
open Go.RowKit Go.Proofs.YtinjblbfaijhdaaDoorW.PrintWords Go.Proofs.YtinjblbfaijhdaaDoorW.PrintLast Go.Proofs.YtinjblbfaijhdaaDoorW.PrintMore
open Go.Proofs.YtinjblbfaijhdaaDoor.Pl
set_option linter.unusedVariables false
set_option linter.unusedSimpArgs false
def dec (n : Nat) : ByteArray := ⟨(Lib.decDigits n).toArray⟩
theorem ba_ext' {a b : ByteArray} (h : a.data.toList = b.data.toList) : a = b := by
  cases a; cases b; simp only at h; congr; exact Array.toList_inj.1 h
theorem dec_len (n : Nat) : (Lib.decDigits n).length ≤ n + 1 := by
  induction n using Nat.strongRecOn with
  | ind n ih =>
    rw [Lib.decDigits]
    split
    · simp
    · have := ih (n / 10) (by omega)
      simp only [List.length_append, List.length_cons, List.length_nil]
      omega
theorem dec_size (n : Nat) : (dec n).size ≤ n + 1 := dec_len n
theorem dec_ev (n : Nat) (hn : n ≤ 1000000000) : Ev (fun k => spec_l6Dec.f k n) (dec n) := by
  induction n using Nat.strongRecOn with
  | ind n ih =>
    by_cases c : n < 10
    · refine Ev.end fun k => ?_
      simp only [spec_l6Dec.f]
      rw [if_neg (by omega), if_neg (by omega), if_pos (by omega), wr (x := 48 + (n : Int)) (by omega) (by omega)]
      congr 1
      refine ba_ext' ?_
      show ([(48 + (n : Int)) % 256].map fun x : Int => UInt8.ofNat x.toNat) = Lib.decDigits n
      rw [Lib.decDigits, dif_pos c]
      have : ((48 + (n : Int)) % 256).toNat = 48 + n := by omega
      simp only [List.map_cons, List.map_nil, this]
    · have k1 := ih (n / 10) (by omega) (by omega)
      refine Ev.step (f := fun k => (spec_l6Dec.f k ((n / 10 : Nat) : Int)).bind fun t => if t.size + (strOfNums [48 + ((n % 10 : Nat) : Int)]).size ≤ 9223372036854775807 then some (t ++ strOfNums [48 + ((n % 10 : Nat) : Int)]) else none) (fun k => ?_) ?_
      · simp only [spec_l6Dec.f]
        rw [if_neg (by omega), if_neg (by omega), if_neg (by omega), show Int.tdiv (n : Int) 10 = ((n / 10 : Nat) : Int) from tdiv_nat n 10, show Int.tmod (n : Int) 10 = ((n % 10 : Nat) : Int) from tmod_nat n 10, wr (x := ((n / 10 : Nat) : Int)) (by omega) (by omega), wr (x := 48 + ((n % 10 : Nat) : Int)) (by omega) (by omega)]
        have : (48 + ((n % 10 : Nat) : Int)) % 256 = 48 + ((n % 10 : Nat) : Int) := by omega
        rw [this]
        rfl
      · refine Ev.bind k1 (Ev.const fun k => ?_)
        have h1 := dec_size (n / 10)
        have h2 : (strOfNums [48 + ((n % 10 : Nat) : Int)]).size = 1 := rfl
        rw [if_pos (by omega)]
        congr 1
        refine ba_ext' ?_
        have e : (48 + ((n % 10 : Nat) : Int)).toNat = 48 + n % 10 := by omega
        rw [ByteArray.data_append, Array.toList_append]
        show Lib.decDigits (n / 10) ++ ([48 + ((n % 10 : Nat) : Int)].map fun x : Int => UInt8.ofNat x.toNat) = Lib.decDigits n
        rw [Lib.decDigits.eq_def n, dif_neg c]
        simp only [List.map_cons, List.map_nil, e]
theorem itoa_eq (n : Nat) (hn : n ≤ 1000000000) : strconv_Itoa_68.f n = some (dec n) := by
  unfold strconv_Itoa_68.f
  rw [if_pos (by omega), Lib.itoa, if_neg (by omega), Int.toNat_natCast]
  rfl
/-- A word, and numbers, each one behind a space. -/
def wordsB (x : ByteArray) : List Nat → ByteArray
  | [] => x
  | n :: l => wordsB (x ++ (⟨#[32]⟩ : ByteArray) ++ dec n) l
theorem rd_at (l : List Nat) (i : Nat) (h : i < l.length) : rd (l.map fun y : Nat => (y : Int)) (i : Int) = ((l[i] : Nat) : Int) := by
  simp [rd, h]
theorem words_ev (l : List Nat) (hl : l.length ≤ 100000) (hb : ∀ n ∈ l, n ≤ 100000) (d : Nat) : ∀ (i : Nat) (x : ByteArray), i + d = l.length → x.size ≤ 1000 + i * 200000 →
    Ev (fun k => impl_proofText.l0 k x (l.map fun y : Nat => (y : Int)) (l.length : Nat) (i : Nat)) (wordsB x (l.drop i)) ∧ Ev (fun k => spec_l11Words.l0 k x (l.map fun y : Nat => (y : Int)) (i : Nat)) (wordsB x (l.drop i)) := by
  induction d with
  | zero =>
    intro i x hi hx
    rw [List.drop_eq_nil_of_le (by omega)]
    constructor
    · refine Ev.end fun k => ?_
      simp only [impl_proofText.l0]
      rw [if_neg (by omega)]; rfl
    · refine Ev.end fun k => ?_
      simp only [spec_l11Words.l0, List.length_map]
      rw [if_neg (by omega)]; rfl
  | succ d ih =>
    intro i x hi hx
    have hil : i < l.length := by omega
    have hm := hb l[i] (List.getElem_mem hil)
    have hs := dec_size l[i]
    have e : l.drop i = l[i] :: l.drop (i + 1) := (List.getElem_cons_drop hil).symm
    have hsz : (x ++ (⟨#[32]⟩ : ByteArray) ++ dec l[i]).size = x.size + 1 + (dec l[i]).size := by
      rw [ByteArray.size_append, ByteArray.size_append]; rfl
    obtain ⟨k1, k2⟩ := ih (i + 1) (x ++ (⟨#[32]⟩ : ByteArray) ++ dec l[i]) (by omega) (by omega)
    rw [e]
    have ea : x ++ ((⟨#[32]⟩ : ByteArray) ++ dec l[i]) = x ++ (⟨#[32]⟩ : ByteArray) ++ dec l[i] := ba_ext' (by simp [ByteArray.data_append])
    constructor
    · refine Ev.step (fun k => ?_) k1
      simp only [impl_proofText.l0, List.length_map]
      rw [if_pos (by omega), if_pos (by omega), if_pos (by omega), rd_at l i hil, itoa_eq _ (by omega)]
      simp only [Option.bind_some]
      rw [if_pos (by omega), if_pos (by omega), wr1 (by omega), ea]
    · refine Ev.step (f := fun k => (spec_l6Dec.f k ((l[i] : Nat) : Int)).bind fun t => if x.size + 1 + t.size ≤ 9223372036854775807 then spec_l11Words.l0 k (x ++ (⟨#[32]⟩ : ByteArray) ++ t) (l.map fun y : Nat => (y : Int)) ((i + 1 : Nat) : Int) else none) (fun k => ?_) ?_
      · simp only [spec_l11Words.l0, List.length_map]
        rw [if_pos (by omega), if_pos (by omega), if_pos (by omega), rd_at l i hil, wr1 (by omega)]
      · have hc : x.size + 1 + (dec l[i]).size ≤ 9223372036854775807 := by omega
        refine Ev.bind (dec_ev _ (by omega)) ?_
        simp only [if_pos hc]
        exact k2
/-- What both writers make of a word and numbers. -/
theorem words_both (x : ByteArray) (hx : x.size ≤ 1000) (l : List Nat) (hl : l.length ≤ 100000) (hb : ∀ n ∈ l, n ≤ 100000) :
    Ev (fun k => impl_proofText.f k x (l.map fun y : Nat => (y : Int))) (wordsB x l) ∧ Ev (fun k => spec_l11Words.f k x (l.map fun y : Nat => (y : Int))) (wordsB x l) := by
  obtain ⟨k1, k2⟩ := words_ev l hl hb l.length 0 x (Nat.zero_add _) (by omega)
  constructor
  · unfold impl_proofText.f
    rw [List.length_map]
    exact k1
  · exact k2


theorem divisor_ev3 (b : Nat) : ∀ a : Nat, Ev (fun k => spec_l1Divisor.f k (a : Int) (b : Int)) ((Nat.gcd a b : Nat) : Int) := by
  induction b using Nat.strongRecOn with
  | _ b ih =>
    intro a
    by_cases c : b = 0
    · subst c
      refine Ev.end fun k => ?_
      simp only [spec_l1Divisor.f, spec_l1Divisor.l0]
      rw [if_neg (by omega), Nat.gcd_zero_right]
    · have h1 := ih (a % b) (Nat.mod_lt _ (by omega)) b
      rw [Nat.gcd_comm b, ← Nat.gcd_rec, Nat.gcd_comm] at h1
      refine Ev.step (fun k => ?_) h1
      simp only [spec_l1Divisor.f, spec_l1Divisor.l0]
      rw [if_pos (by omega), if_neg (by omega), tmod_nat]
theorem one_word (x : ByteArray) (hx : x.size ≤ 1000) (n : Nat) (hn : n ≤ 100000) : Ev (fun k => impl_proofText.f k x ([(n : Int)] : List Int)) (wordsB x [n]) ∧ Ev (fun k => spec_l11Words.f k x ([(n : Int)] : List Int)) (wordsB x [n]) :=
  words_both x hx [n] (by simp) (fun m hm => by simp at hm; omega)

/-- The greatest common divisor of the numbers less than n of a set. -/
def gcdB (f : Nat → Bool) : Nat → Nat
  | 0 => 0
  | n + 1 => if f n = true then Nat.gcd (gcdB f n) n else gcdB f n
theorem gcdB_dvd (f : Nat → Bool) (n : Nat) : ∀ m, m < n → f m = true → gcdB f n ∣ m := by
  induction n with
  | zero => intro m h; omega
  | succ n ih =>
    intro m h hm
    unfold gcdB
    rcases Nat.lt_or_ge m n with c | c
    · split
      · exact Nat.dvd_trans (Nat.gcd_dvd_left _ _) (ih m c hm)
      · exact ih m c hm
    · obtain rfl : m = n := by omega
      rw [if_pos hm]
      exact Nat.gcd_dvd_right _ _
theorem dvd_gcdB (f : Nat → Bool) (d n : Nat) (h : ∀ m, m < n → f m = true → d ∣ m) : d ∣ gcdB f n := by
  induction n with
  | zero => exact Nat.dvd_zero d
  | succ n ih =>
    unfold gcdB
    have := ih fun m hm => h m (by omega)
    split
    · rename_i c
      exact Nat.dvd_gcd this (h n (by omega) c)
    · exact this
/-- It divides all numbers of the set, once a tail and two rings are asked. -/
theorem gcdB_all {t r : List Bool} (hr : 0 < r.length) (N : Nat) (hN : t.length + 2 * r.length ≤ N) (n : Nat) : hasB t r n = true → gcdB (hasB t r) N ∣ n := by
  induction n using Nat.strongRecOn with
  | ind n ih =>
    intro hn
    rcases Nat.lt_or_ge n N with c | c
    · exact gcdB_dvd _ _ n c hn
    · have p := fun m (hm : t.length ≤ m) => hasB_add_mul (t := t) (r := r) hm r.length (Nat.mod_self _)
      have e1 : hasB t r (n - r.length) = true := by
        rw [← p (n - r.length) (by omega), show n - r.length + r.length = n from by omega]; exact hn
      have e2 : hasB t r (n - r.length - r.length) = true := by
        rw [← p (n - r.length - r.length) (by omega), show n - r.length - r.length + r.length = n - r.length from by omega]; exact e1
      have d1 := ih (n - r.length) (by omega) e1
      have d2 := ih (n - r.length - r.length) (by omega) e2
      have d3 : gcdB (hasB t r) N ∣ r.length := by
        have := Nat.dvd_sub d1 d2
        rwa [show n - r.length - (n - r.length - r.length) = r.length from by omega] at this
      have := Nat.dvd_add d1 d3
      rwa [show n - r.length + r.length = n from by omega] at this
theorem gcdB_eq {t r : List Bool} (hr : 0 < r.length) (N M : Nat) (hN : t.length + 2 * r.length ≤ N) (hM : t.length + 2 * r.length ≤ M) : gcdB (hasB t r) N = gcdB (hasB t r) M :=
  Nat.dvd_antisymm (dvd_gcdB _ _ _ fun m _ h => gcdB_all hr N hN m h) (dvd_gcdB _ _ _ fun m _ h => gcdB_all hr M hM m h)
theorem gcdB_star {t r : List Bool} (hr : 0 < r.length) (N : Nat) (hN : t.length + 2 * r.length ≤ N) (n : Nat) : star (hasB t r) n = true → gcdB (hasB t r) N ∣ n := by
  induction n using Nat.strongRecOn with
  | ind n ih =>
    intro hn
    rcases Nat.eq_zero_or_pos n with c | c
    · subst c; exact Nat.dvd_zero _
    · obtain ⟨y, h1, h2, h3, h4⟩ := (star_iff _ c).1 hn
      have := Nat.dvd_add (ih (n - y) (by omega) h4) (gcdB_all hr N hN y h3)
      rwa [show n - y + y = n from by omega] at this
theorem gcdB_le (f : Nat → Bool) (n : Nat) : gcdB f n ≤ n := by
  induction n with
  | zero => exact Nat.le_refl _
  | succ n ih =>
    unfold gcdB
    split
    · rcases Nat.eq_zero_or_pos n with c | c
      · subst c; show Nat.gcd 0 0 ≤ 1; decide
      · exact Nat.le_trans (Nat.gcd_le_right _ c) (by omega)
    · omega

theorem listM_append_at (f : Nat → Bool) (n : Nat) (i : Nat) (h : i < (listM f n).length) : ∃ m, m < n ∧ f m = true ∧ rd (listM f n) (i : Int) = (m : Int) := by
  induction n with
  | zero => simp [listM_zero] at h
  | succ n ih =>
    rw [listM_succ] at h ⊢
    by_cases c : f n = true
    · rw [if_pos c] at h ⊢
      rw [List.length_append] at h
      rcases Nat.lt_or_ge i (listM f n).length with k | k
      · obtain ⟨m, h1, h2, h3⟩ := ih k
        refine ⟨m, by omega, h2, ?_⟩
        rw [← h3]
        simp [rd, List.getElem?_append_left k]
      · have : i = (listM f n).length := by simp at h; omega
        subst this
        refine ⟨n, by omega, c, ?_⟩
        simp [rd]
    · rw [if_neg c] at h ⊢
      obtain ⟨m, h1, h2, h3⟩ := ih h
      exact ⟨m, by omega, h2, h3⟩
/-- The loop over a list: the greatest common divisor of what is behind place i, and d. -/
theorem divisor_l0 (f : Nat → Bool) (n : Nat) (hn : n ≤ 1000) (e : Nat) : ∀ (i d : Nat), i + e = (listM f n).length → ∃ g : Nat, Ev (fun k => impl_set_divisor.l0 k (d : Int) (listM f n) ((listM f n).length : Nat) (i : Nat)) (g : Int) ∧ g ∣ d ∧ (∀ j, i ≤ j → j < (listM f n).length → (g : Int) ∣ rd (listM f n) (j : Int)) ∧ ∀ x : Nat, x ∣ d → (∀ j, i ≤ j → j < (listM f n).length → (x : Int) ∣ rd (listM f n) (j : Int)) → x ∣ g := by
  have hl := listM_length_le f n
  induction e with
  | zero =>
    intro i d hi
    refine ⟨d, Ev.end fun k => ?_, Nat.dvd_refl _, fun j h1 h2 => by omega, fun x hx _ => hx⟩
    simp only [impl_set_divisor.l0]
    rw [if_neg (by omega)]
  | succ e ih =>
    intro i d hi
    obtain ⟨m, m1, m2, m3⟩ := listM_append_at f n i (by omega)
    obtain ⟨g, g1, g2, g3, g4⟩ := ih (i + 1) (Nat.gcd d m) (by omega)
    refine ⟨g, ?_, Nat.dvd_trans g2 (Nat.gcd_dvd_left _ _), fun j h1 h2 => ?_, fun x hx hj => ?_⟩
    · refine Ev.step (f := fun k => (impl_gcd.f k (d : Int) (m : Int)).bind fun t => impl_set_divisor.l0 k t (listM f n) ((listM f n).length : Nat) ((i + 1 : Nat) : Int)) (fun k => ?_) (Ev.bind (gcd_ev m d) g1)
      simp only [impl_set_divisor.l0]
      rw [if_pos (by omega), if_pos (by omega), if_pos (by omega), m3, wr1 (by omega)]
    · rcases Nat.eq_or_lt_of_le h1 with c | c
      · subst c
        rw [m3]
        exact Int.natCast_dvd_natCast.2 (Nat.dvd_trans g2 (Nat.gcd_dvd_right _ _))
      · exact g3 j c h2
    · have hm : x ∣ m := by
        have := hj i (Nat.le_refl _) (by omega)
        rw [m3] at this
        exact Int.natCast_dvd_natCast.1 this
      exact g4 x (Nat.dvd_gcd hx hm) (fun j h1 h2 => hj j (by omega) h2)
theorem listM_mem (f : Nat → Bool) (n m : Nat) (h : m < n) (hm : f m = true) : ∃ i, i < (listM f n).length ∧ rd (listM f n) (i : Int) = (m : Int) := by
  induction n with
  | zero => omega
  | succ n ih =>
    rw [listM_succ]
    rcases Nat.lt_or_ge m n with c | c
    · obtain ⟨i, h1, h2⟩ := ih c
      split
      · refine ⟨i, by rw [List.length_append]; omega, ?_⟩
        rw [← h2]
        simp [rd, List.getElem?_append_left h1]
      · exact ⟨i, h1, h2⟩
    · obtain rfl : m = n := by omega
      rw [if_pos hm]
      exact ⟨(listM f m).length, by simp, by simp [rd]⟩
theorem divisor_ev {t r : List Bool} (h : Good t r) : Ev (fun k => impl_set_divisor.f k t r) ((gcdB (hasB t r) (t.length + 2 * r.length) : Nat) : Int) := by
  have h1 := h.tl
  have h2 := h.rl
  have e : wrap64 ((t.length : Int) + wrap64 (2 * (r.length : Int))) = ((t.length + 2 * r.length : Nat) : Int) := by
    rw [wr (x := 2 * (r.length : Int)) (by omega) (by omega), wr (by omega) (by omega)]; omega
  obtain ⟨g, g1, g2, g3, g4⟩ := divisor_l0 (hasB t r) (t.length + 2 * r.length) (by omega) (listM (hasB t r) (t.length + 2 * r.length)).length 0 0 (Nat.zero_add _)
  have : g = gcdB (hasB t r) (t.length + 2 * r.length) := by
    refine Nat.dvd_antisymm (dvd_gcdB _ _ _ fun m hm k => ?_) (g4 _ (Nat.dvd_zero _) fun j _ hj => ?_)
    · obtain ⟨i, i1, i2⟩ := listM_mem _ _ m hm k
      have := g3 i (Nat.zero_le _) i1
      rw [i2] at this
      exact Int.natCast_dvd_natCast.1 this
    · obtain ⟨m, m1, m2, m3⟩ := listM_append_at _ _ j hj
      rw [m3]
      exact Int.natCast_dvd_natCast.2 (gcdB_dvd _ _ m m1 m2)
  subst this
  unfold impl_set_divisor.f
  rw [e]
  exact Ev.bind (below_ev h _ (by omega)) g1
theorem common_l0 {t r : List Bool} (h : Good t r) (e : Nat) : ∀ i, i + e = 40 → 1 ≤ i → Ev (fun k => spec_l11Common.l0 k ((gcdB (hasB t r) i : Nat) : Int) (i : Nat) t r) ((gcdB (hasB t r) 40 : Nat) : Int) := by
  induction e with
  | zero =>
    intro i hi h1
    obtain rfl : i = 40 := by omega
    refine Ev.end fun k => ?_
    simp only [spec_l11Common.l0]
    rw [if_neg (by omega)]
  | succ e ih =>
    intro i hi h1
    have k1 := ih (i + 1) (by omega) (by omega)
    have g := l1_has h i (by omega)
    have hi40 : (i : Int) < 40 := by omega
    cases c : hasB t r i with
    | true =>
      have e1 : gcdB (hasB t r) (i + 1) = Nat.gcd i (gcdB (hasB t r) i) := by
        show (if hasB t r i = true then _ else _) = _
        rw [if_pos c, Nat.gcd_comm]
      rw [e1] at k1
      refine Ev.step (f := fun k => (spec_l1Divisor.f k (i : Int) ((gcdB (hasB t r) i : Nat) : Int)).bind fun x => spec_l11Common.l0 k x ((i + 1 : Nat) : Int) t r) (fun k => ?_) (Ev.bind (divisor_ev3 _ i) k1)
      simp only [spec_l11Common.l0, if_pos hi40, g, c, Option.bind_some, if_true]
      rw [wr1 (by omega)]
    | false =>
      have e1 : gcdB (hasB t r) (i + 1) = gcdB (hasB t r) i := by
        show (if hasB t r i = true then _ else _) = _
        rw [if_neg (by rw [c]; simp)]
      rw [e1] at k1
      refine Ev.step (fun k => ?_) k1
      simp only [spec_l11Common.l0, if_pos hi40, g, c, Option.bind_some, Bool.false_eq_true, if_false]
      rw [wr1 (by omega)]
theorem common_ev {t r : List Bool} (h : Good t r) : Ev (fun k => spec_l11Common.f k t r) ((gcdB (hasB t r) 40 : Nat) : Int) := by
  have e : gcdB (hasB t r) 1 = 0 := by
    show (if hasB t r 0 = true then Nat.gcd 0 0 else 0) = 0
    split <;> rfl
  have := common_l0 h 39 1 (by omega) (Nat.le_refl _)
  rw [e] at this
  exact this

def rest_ : ByteArray := ⟨#[114, 101, 115, 116]⟩
def restR (d n : Nat) : ByteArray × Bool := if d < 2 then ((⟨#[]⟩ : ByteArray), false) else if n % d = 0 then ((⟨#[]⟩ : ByteArray), false) else (wordsB rest_ [d], true)
theorem proofRest_yes {s : ByteArray} {t r : List Bool} (h : IsSmall s t r) (n : Nat) (h1 : 1 ≤ n) (hn : n ≤ 1000) : Ev (fun k => impl_ProofRest.f k s n) (restR (gcdB (hasB t r) 40) n) ∧ Ev (fun k => spec_ProofRest.f k s n) (restR (gcdB (hasB t r) 40) n) := by
  have a1 := h.tl
  have a2 := h.rl
  have d1 := divisor_ev h.good
  rw [gcdB_eq h.good.pos _ 40 (Nat.le_refl _) (by omega)] at d1
  have d2 := common_ev h.good
  have hd := gcdB_le (hasB t r) 40
  generalize gcdB (hasB t r) 40 = d at *
  obtain ⟨w1, w2⟩ := one_word rest_ (by decide) d (by omega)
  have i1 : impl_in.f (n : Int) 1 1000 = some true := by rw [in_eq', decide_eq_true (by omega)]
  have i2 : spec_l6In.f (n : Int) 1 1000 = some true := by rw [l6In_eq', decide_eq_true (by omega)]
  unfold restR
  constructor
  · unfold impl_ProofRest.f
    refine Ev.bind h.impl ?_
    simp only [if_true, i1, Option.bind_some, Bool.not_true]
    refine Ev.step (f := fun k => (impl_set_divisor.f k t r).bind fun x => (if x < 2 then (some ((⟨#[]⟩ : ByteArray), false)) else (if x = 0 then (none) else (if (Int.tmod (n : Int) x) = 0 then (some ((⟨#[]⟩ : ByteArray), false)) else ((impl_proofText.f k rest_ (([x] : List Int))).bind fun y => (some (y, true))))))) (fun k => by simp only [impl_ProofRest.j0, Bool.false_eq_true, if_false]; rfl) ?_
    refine Ev.bind d1 ?_
    by_cases c : d < 2
    · simp only [if_pos c, if_pos (show (d : Int) < 2 by omega)]; exact Ev.now _
    · simp only [if_neg c, if_neg (show ¬ (d : Int) < 2 by omega), if_neg (show ¬ (d : Int) = 0 by omega), tmod_nat]
      by_cases c2 : n % d = 0
      · simp only [if_pos c2, if_pos (show ((n % d : Nat) : Int) = 0 by omega)]; exact Ev.now _
      · simp only [if_neg c2, if_neg (show ¬ ((n % d : Nat) : Int) = 0 by omega)]
        exact Ev.bind w1 (Ev.now _)
  · unfold spec_ProofRest.f
    refine Ev.bind h.spec ?_
    simp only [if_true, i2, Option.bind_some, Bool.not_true]
    refine Ev.step (f := fun k => (spec_l11Common.f k t r).bind fun x => (if x < 2 then (some ((⟨#[]⟩ : ByteArray), false)) else (if x = 0 then (none) else (if (Int.tmod (n : Int) x) = 0 then (some ((⟨#[]⟩ : ByteArray), false)) else ((spec_l11Words.f k rest_ (([x] : List Int))).bind fun y => (some (y, true))))))) (fun k => by simp only [spec_ProofRest.j0, Bool.false_eq_true, if_false]; rfl) ?_
    refine Ev.bind d2 ?_
    by_cases c : d < 2
    · simp only [if_pos c, if_pos (show (d : Int) < 2 by omega)]; exact Ev.now _
    · simp only [if_neg c, if_neg (show ¬ (d : Int) < 2 by omega), if_neg (show ¬ (d : Int) = 0 by omega), tmod_nat]
      by_cases c2 : n % d = 0
      · simp only [if_pos c2, if_pos (show ((n % d : Nat) : Int) = 0 by omega)]; exact Ev.now _
      · simp only [if_neg c2, if_neg (show ¬ ((n % d : Nat) : Int) = 0 by omega)]
        exact Ev.bind w2 (Ev.now _)
end Go.Proofs.YtinjblbfaijhdaaDoor.Q
