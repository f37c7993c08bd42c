/- The law FnProofSumIs holds for all that it draws. -/
import Derived.Lib.ItoaNum
import Derived.Test.YtinjblbfaijhdaaDoorCFnProofSumIs9
import Derived.Test.YtinjblbfaijhdaaDoorCFnProofSumIs11
import Derived.Test.YtinjblbfaijhdaaDoorCFnProofSumIs13
import Derived.Test.YtinjblbfaijhdaaDoorCFnProofSumIs14
import Derived.Test.YtinjblbfaijhdaaDoorCFnProofSumIs15
namespace Go.Proofs.YtinjblbfaijhdaaDoor.Q
open Go.RowKit Go.Proofs.YtinjblbfaijhdaaDoorW.PrintWords Go.Proofs.YtinjblbfaijhdaaDoorW.PrintLast Go.Proofs.YtinjblbfaijhdaaDoorW.PrintMore
open Go.Proofs.YtinjblbfaijhdaaDoor.Pl
set_option linter.unusedVariables false
set_option linter.unusedSimpArgs false
def dec (n : Nat) : ByteArray := ⟨(Lib.decDigits n).toArray⟩
theorem ba_ext' {a b : ByteArray} (h : a.data.toList = b.data.toList) : a = b := by
  cases a; cases b; simp only at h; congr; exact Array.toList_inj.1 h
theorem dec_len (n : Nat) : (Lib.decDigits n).length ≤ n + 1 := by
  induction n using Nat.strongRecOn with
  | ind n ih =>
    rw [Lib.decDigits]
    split
    · simp
    · have := ih (n / 10) (by omega)
      simp only [List.length_append, List.length_cons, List.length_nil]
      omega
theorem dec_size (n : Nat) : (dec n).size ≤ n + 1 := dec_len n
theorem dec_ev (n : Nat) (hn : n ≤ 1000000000) : Ev (fun k => spec_l6Dec.f k n) (dec n) := by
  induction n using Nat.strongRecOn with
  | ind n ih =>
    by_cases c : n < 10
    · refine Ev.end fun k => ?_
      simp only [spec_l6Dec.f]
      rw [if_neg (by omega), if_neg (by omega), if_pos (by omega), wr (x := 48 + (n : Int)) (by omega) (by omega)]
      congr 1
      refine ba_ext' ?_
      show ([(48 + (n : Int)) % 256].map fun x : Int => UInt8.ofNat x.toNat) = Lib.decDigits n
      rw [Lib.decDigits, dif_pos c]
      have : ((48 + (n : Int)) % 256).toNat = 48 + n := by omega
      simp only [List.map_cons, List.map_nil, this]
    · have k1 := ih (n / 10) (by omega) (by omega)
      refine Ev.step (f := fun k => (spec_l6Dec.f k ((n / 10 : Nat) : Int)).bind fun t => if t.size + (strOfNums [48 + ((n % 10 : Nat) : Int)]).size ≤ 9223372036854775807 then some (t ++ strOfNums [48 + ((n % 10 : Nat) : Int)]) else none) (fun k => ?_) ?_
      · simp only [spec_l6Dec.f]
        rw [if_neg (by omega), if_neg (by omega), if_neg (by omega), show Int.tdiv (n : Int) 10 = ((n / 10 : Nat) : Int) from tdiv_nat n 10, show Int.tmod (n : Int) 10 = ((n % 10 : Nat) : Int) from tmod_nat n 10, wr (x := ((n / 10 : Nat) : Int)) (by omega) (by omega), wr (x := 48 + ((n % 10 : Nat) : Int)) (by omega) (by omega)]
        have : (48 + ((n % 10 : Nat) : Int)) % 256 = 48 + ((n % 10 : Nat) : Int) := by omega
        rw [this]
        rfl
      · refine Ev.bind k1 (Ev.const fun k => ?_)
        have h1 := dec_size (n / 10)
        have h2 : (strOfNums [48 + ((n % 10 : Nat) : Int)]).size = 1 := rfl
        rw [if_pos (by omega)]
        congr 1
        refine ba_ext' ?_
        have e : (48 + ((n % 10 : Nat) : Int)).toNat = 48 + n % 10 := by omega
        rw [ByteArray.data_append, Array.toList_append]
        show Lib.decDigits (n / 10) ++ ([48 + ((n % 10 : Nat) : Int)].map fun x : Int => UInt8.ofNat x.toNat) = Lib.decDigits n
        rw [Lib.decDigits.eq_def n, dif_neg c]
        simp only [List.map_cons, List.map_nil, e]
theorem rd_at (l : List Nat) (i : Nat) (h : i < l.length) : rd (l.map fun y : Nat => (y : Int)) (i : Int) = ((l[i] : Nat) : Int) := by
  simp [rd, h]

theorem divisor_ev3 (b : Nat) : ∀ a : Nat, Ev (fun k => spec_l1Divisor.f k (a : Int) (b : Int)) ((Nat.gcd a b : Nat) : Int) := by
  induction b using Nat.strongRecOn with
  | _ b ih =>
    intro a
    by_cases c : b = 0
    · subst c
      refine Ev.end fun k => ?_
      simp only [spec_l1Divisor.f, spec_l1Divisor.l0]
      rw [if_neg (by omega), Nat.gcd_zero_right]
    · have h1 := ih (a % b) (Nat.mod_lt _ (by omega)) b
      rw [Nat.gcd_comm b, ← Nat.gcd_rec, Nat.gcd_comm] at h1
      refine Ev.step (fun k => ?_) h1
      simp only [spec_l1Divisor.f, spec_l1Divisor.l0]
      rw [if_pos (by omega), if_neg (by omega), tmod_nat]

/-- The greatest common divisor of the numbers less than n of a set. -/
def gcdB (f : Nat → Bool) : Nat → Nat
  | 0 => 0
  | n + 1 => if f n = true then Nat.gcd (gcdB f n) n else gcdB f n
theorem gcdB_dvd (f : Nat → Bool) (n : Nat) : ∀ m, m < n → f m = true → gcdB f n ∣ m := by
  induction n with
  | zero => intro m h; omega
  | succ n ih =>
    intro m h hm
    unfold gcdB
    rcases Nat.lt_or_ge m n with c | c
    · split
      · exact Nat.dvd_trans (Nat.gcd_dvd_left _ _) (ih m c hm)
      · exact ih m c hm
    · obtain rfl : m = n := by omega
      rw [if_pos hm]
      exact Nat.gcd_dvd_right _ _
theorem dvd_gcdB (f : Nat → Bool) (d n : Nat) (h : ∀ m, m < n → f m = true → d ∣ m) : d ∣ gcdB f n := by
  induction n with
  | zero => exact Nat.dvd_zero d
  | succ n ih =>
    unfold gcdB
    have := ih fun m hm => h m (by omega)
    split
    · rename_i c
      exact Nat.dvd_gcd this (h n (by omega) c)
    · exact this
/-- It divides all numbers of the set, once a tail and two rings are asked. -/
theorem gcdB_all {t r : List Bool} (hr : 0 < r.length) (N : Nat) (hN : t.length + 2 * r.length ≤ N) (n : Nat) : hasB t r n = true → gcdB (hasB t r) N ∣ n := by
  induction n using Nat.strongRecOn with
  | ind n ih =>
    intro hn
    rcases Nat.lt_or_ge n N with c | c
    · exact gcdB_dvd _ _ n c hn
    · have p := fun m (hm : t.length ≤ m) => hasB_add_mul (t := t) (r := r) hm r.length (Nat.mod_self _)
      have e1 : hasB t r (n - r.length) = true := by
        rw [← p (n - r.length) (by omega), show n - r.length + r.length = n from by omega]; exact hn
      have e2 : hasB t r (n - r.length - r.length) = true := by
        rw [← p (n - r.length - r.length) (by omega), show n - r.length - r.length + r.length = n - r.length from by omega]; exact e1
      have d1 := ih (n - r.length) (by omega) e1
      have d2 := ih (n - r.length - r.length) (by omega) e2
      have d3 : gcdB (hasB t r) N ∣ r.length := by
        have := Nat.dvd_sub d1 d2
        rwa [show n - r.length - (n - r.length - r.length) = r.length from by omega] at this
      have := Nat.dvd_add d1 d3
      rwa [show n - r.length + r.length = n from by omega] at this
theorem gcdB_eq {t r : List Bool} (hr : 0 < r.length) (N M : Nat) (hN : t.length + 2 * r.length ≤ N) (hM : t.length + 2 * r.length ≤ M) : gcdB (hasB t r) N = gcdB (hasB t r) M :=
  Nat.dvd_antisymm (dvd_gcdB _ _ _ fun m _ h => gcdB_all hr N hN m h) (dvd_gcdB _ _ _ fun m _ h => gcdB_all hr M hM m h)
theorem gcdB_star {t r : List Bool} (hr : 0 < r.length) (N : Nat) (hN : t.length + 2 * r.length ≤ N) (n : Nat) : star (hasB t r) n = true → gcdB (hasB t r) N ∣ n := by
  induction n using Nat.strongRecOn with
  | ind n ih =>
    intro hn
    rcases Nat.eq_zero_or_pos n with c | c
    · subst c; exact Nat.dvd_zero _
    · obtain ⟨y, h1, h2, h3, h4⟩ := (star_iff _ c).1 hn
      have := Nat.dvd_add (ih (n - y) (by omega) h4) (gcdB_all hr N hN y h3)
      rwa [show n - y + y = n from by omega] at this
theorem listM_append_at (f : Nat → Bool) (n : Nat) (i : Nat) (h : i < (listM f n).length) : ∃ m, m < n ∧ f m = true ∧ rd (listM f n) (i : Int) = (m : Int) := by
  induction n with
  | zero => simp [listM_zero] at h
  | succ n ih =>
    rw [listM_succ] at h ⊢
    by_cases c : f n = true
    · rw [if_pos c] at h ⊢
      rw [List.length_append] at h
      rcases Nat.lt_or_ge i (listM f n).length with k | k
      · obtain ⟨m, h1, h2, h3⟩ := ih k
        refine ⟨m, by omega, h2, ?_⟩
        rw [← h3]
        simp [rd, List.getElem?_append_left k]
      · have : i = (listM f n).length := by simp at h; omega
        subst this
        refine ⟨n, by omega, c, ?_⟩
        simp [rd]
    · rw [if_neg c] at h ⊢
      obtain ⟨m, h1, h2, h3⟩ := ih h
      exact ⟨m, by omega, h2, h3⟩
theorem listM_mem (f : Nat → Bool) (n m : Nat) (h : m < n) (hm : f m = true) : ∃ i, i < (listM f n).length ∧ rd (listM f n) (i : Int) = (m : Int) := by
  induction n with
  | zero => omega
  | succ n ih =>
    rw [listM_succ]
    rcases Nat.lt_or_ge m n with c | c
    · obtain ⟨i, h1, h2⟩ := ih c
      split
      · refine ⟨i, by rw [List.length_append]; omega, ?_⟩
        rw [← h2]
        simp [rd, List.getElem?_append_left h1]
      · exact ⟨i, h1, h2⟩
    · obtain rfl : m = n := by omega
      rw [if_pos hm]
      exact ⟨(listM f m).length, by simp, by simp [rd]⟩
theorem common_l0 {t r : List Bool} (h : Good t r) (e : Nat) : ∀ i, i + e = 40 → 1 ≤ i → Ev (fun k => spec_l11Common.l0 k ((gcdB (hasB t r) i : Nat) : Int) (i : Nat) t r) ((gcdB (hasB t r) 40 : Nat) : Int) := by
  induction e with
  | zero =>
    intro i hi h1
    obtain rfl : i = 40 := by omega
    refine Ev.end fun k => ?_
    simp only [spec_l11Common.l0]
    rw [if_neg (by omega)]
  | succ e ih =>
    intro i hi h1
    have k1 := ih (i + 1) (by omega) (by omega)
    have g := l1_has h i (by omega)
    have hi40 : (i : Int) < 40 := by omega
    cases c : hasB t r i with
    | true =>
      have e1 : gcdB (hasB t r) (i + 1) = Nat.gcd i (gcdB (hasB t r) i) := by
        show (if hasB t r i = true then _ else _) = _
        rw [if_pos c, Nat.gcd_comm]
      rw [e1] at k1
      refine Ev.step (f := fun k => (spec_l1Divisor.f k (i : Int) ((gcdB (hasB t r) i : Nat) : Int)).bind fun x => spec_l11Common.l0 k x ((i + 1 : Nat) : Int) t r) (fun k => ?_) (Ev.bind (divisor_ev3 _ i) k1)
      simp only [spec_l11Common.l0, if_pos hi40, g, c, Option.bind_some, if_true]
      rw [wr1 (by omega)]
    | false =>
      have e1 : gcdB (hasB t r) (i + 1) = gcdB (hasB t r) i := by
        show (if hasB t r i = true then _ else _) = _
        rw [if_neg (by rw [c]; simp)]
      rw [e1] at k1
      refine Ev.step (fun k => ?_) k1
      simp only [spec_l11Common.l0, if_pos hi40, g, c, Option.bind_some, Bool.false_eq_true, if_false]
      rw [wr1 (by omega)]
theorem common_ev {t r : List Bool} (h : Good t r) : Ev (fun k => spec_l11Common.f k t r) ((gcdB (hasB t r) 40 : Nat) : Int) := by
  have e : gcdB (hasB t r) 1 = 0 := by
    show (if hasB t r 0 = true then Nat.gcd 0 0 else 0) = 0
    split <;> rfl
  have := common_l0 h 39 1 (by omega) (Nat.le_refl _)
  rw [e] at this
  exact this

end Go.Proofs.YtinjblbfaijhdaaDoor.Q
