/- The law FnProofDiffer holds for all that it draws. -/
import Derived.Lib.ItoaNum
import Derived.Lib.AtoiAll
import Derived.Lib.SplitLaws
import Derived.Lib.IndexBytes
namespace Go.Proofs.YtinjblbfaijhdaaDoor.Pl
open Go
set_option linter.unusedVariables false
set_option linter.unusedSimpArgs false
def Digit (c : UInt8) : Prop := 48 ≤ c.toNat ∧ c.toNat ≤ 57
theorem digit_of (n : Nat) (h : n < 10) : Digit (UInt8.ofNat (48 + n)) ∧ (UInt8.ofNat (48 + n)).toNat = 48 + n := by
  have e : (UInt8.ofNat (48 + n)).toNat = 48 + n := by
    rw [UInt8.toNat_ofNat']; omega
  exact ⟨⟨by omega, by omega⟩, e⟩
theorem dec_digits (n : Nat) : ∀ c ∈ Lib.decDigits n, Digit c := by
  induction n using Nat.strongRecOn with
  | ind n ih =>
    intro c hc
    rw [Lib.decDigits] at hc
    split at hc
    · rename_i h
      simp only [List.mem_singleton] at hc
      rw [hc]; exact (digit_of n h).1
    · rcases List.mem_append.1 hc with h | h
      · exact ih (n / 10) (by omega) c h
      · simp only [List.mem_singleton] at h
        rw [h]; exact (digit_of (n % 10) (by omega)).1
theorem dec_ne_nil (n : Nat) : Lib.decDigits n ≠ [] := by
  rw [Lib.decDigits]
  split <;> simp
theorem parse_snoc (l : List UInt8) (c : UInt8) : ∀ acc, Lib.parseUint10 acc (l ++ [c]) = match Lib.parseUint10 acc l with
    | .ok v => Lib.parseUint10 v [c]
    | e => e := by
  induction l with
  | nil => intro acc; rfl
  | cons a l ih =>
    intro acc
    simp only [List.cons_append, Lib.parseUint10]
    split
    · split
      · rfl
      · split
        · rfl
        · exact ih _
    · rfl
theorem parse_one (v : Nat) (n : Nat) (h : n < 10) (hv : v ≤ 1000000000000) : Lib.parseUint10 v [UInt8.ofNat (48 + n)] = .ok (v * 10 + n) := by
  obtain ⟨⟨h1, h2⟩, e⟩ := digit_of n h
  simp only [Lib.parseUint10, e]
  rw [if_pos (by omega), if_neg (by omega), if_neg (by omega)]
  congr 1; omega
theorem parse_dec (n : Nat) (hn : n ≤ 1000000000000) : Lib.parseUint10 0 (Lib.decDigits n) = .ok n := by
  induction n using Nat.strongRecOn with
  | ind n ih =>
    rw [Lib.decDigits]
    split
    · rename_i h
      rw [parse_one 0 n h (by omega)]; simp
    · rw [parse_snoc, ih (n / 10) (by omega) (by omega)]
      show Lib.parseUint10 (n / 10) [_] = _
      rw [parse_one _ _ (by omega) (by omega)]
      congr 1; omega
theorem atoi_dec (n : Nat) (hn : n ≤ 1000000000000) : Lib.atoiAll (Lib.decDigits n) = .ok (n : Int) := by
  have hd := dec_digits n
  have hp := parse_dec n hn
  cases h : Lib.decDigits n with
  | nil => exact absurd h (dec_ne_nil n)
  | cons c r =>
    rw [h] at hd hp
    have hc := hd c (List.mem_cons_self ..)
    unfold Digit at hc
    unfold Lib.atoiAll
    have e1 : ¬ c.toNat = 43 := by omega
    have e2 : ¬ c.toNat = 45 := by omega
    simp only [e1, e2, or_self, false_and, if_false, not_false_eq_true, true_and]
    unfold Lib.parseMag
    rw [if_neg (by simp), hp]
    simp only []
    rw [if_neg (by omega)]

/-- The pieces between spaces. -/
def cutL : List UInt8 → List (List UInt8)
  | [] => [[]]
  | c :: l => if c = 32 then [] :: cutL l else
    match cutL l with
    | [] => [[c]]
    | x :: r => (c :: x) :: r
/-- Pieces, each behind a space. -/
def joinL (ds : List (List UInt8)) : List UInt8 := ds.flatMap fun d => 32 :: d
theorem join_cut (l : List UInt8) : ∃ x r, cutL l = x :: r ∧ l = x ++ joinL r := by
  induction l with
  | nil => exact ⟨[], [], rfl, rfl⟩
  | cons c l ih =>
    obtain ⟨x, r, h1, h2⟩ := ih
    unfold cutL
    by_cases hc : c = 32
    · rw [if_pos hc]
      refine ⟨[], cutL l, rfl, ?_⟩
      rw [h1, hc, h2]; simp [joinL]
    · rw [if_neg hc, h1]
      exact ⟨c :: x, r, rfl, by rw [h2]; rfl⟩
theorem cut_nospace (x : List UInt8) (h : ∀ c ∈ x, c ≠ 32) : ∀ l y r, cutL l = y :: r → cutL (x ++ l) = (x ++ y) :: r := by
  induction x with
  | nil => intro l y r e; exact e
  | cons c x ih =>
    intro l y r e
    have := ih (fun d hd => h d (List.mem_cons_of_mem _ hd)) l y r e
    show cutL (c :: (x ++ l)) = _
    unfold cutL
    rw [if_neg (h c (List.mem_cons_self ..)), this]
    rfl
theorem cut_join (ds : List (List UInt8)) (h : ∀ d ∈ ds, ∀ c ∈ d, c ≠ 32) : cutL (joinL ds) = [] :: ds := by
  induction ds with
  | nil => rfl
  | cons d ds ih =>
    have e := ih fun x hx => h x (List.mem_cons_of_mem _ hx)
    have := cut_nospace d (h d (List.mem_cons_self ..)) (joinL ds) [] ds e
    show cutL (32 :: (d ++ joinL ds)) = _
    unfold cutL
    rw [if_pos rfl, this, List.append_nil]
theorem cut_text (w : List UInt8) (ds : List (List UInt8)) (hw : ∀ c ∈ w, c ≠ 32) (h : ∀ d ∈ ds, ∀ c ∈ d, c ≠ 32) : cutL (w ++ joinL ds) = w :: ds := by
  have := cut_nospace w hw (joinL ds) [] ds (cut_join ds h)
  rwa [List.append_nil] at this
theorem index_first (x : List UInt8) (hx : ∀ c ∈ x, c ≠ 32) (m : List UInt8) : Lib.indexByte (x ++ 32 :: m) 32 = (x.length : Int) := by
  induction x with
  | nil => rfl
  | cons c x ih =>
    have := ih fun d hd => hx d (List.mem_cons_of_mem _ hd)
    have hc : (c == 32) = false := beq_eq_false_iff_ne.2 (hx c (List.mem_cons_self ..))
    show (if (c == 32) = true then 0 else if (Lib.indexByte (x ++ 32 :: m) 32 == -1) = true then -1 else Lib.indexByte (x ++ 32 :: m) 32 + 1) = _
    rw [hc, this, if_neg (by simp), if_neg (by simp)]
    simp
/-- The library's split at one space. -/
theorem splitK_cut (k : Nat) : ∀ l : List UInt8, l.count 32 = k → Lib.splitK [32] 0 k l = cutL l := by
  induction k with
  | zero =>
    intro l h
    show [l] = cutL l
    have := cut_text l [] (fun c hc e => by rw [e] at hc; exact absurd (List.count_pos_iff.2 hc) (by omega)) (fun d hd => by cases hd)
    rw [show joinL [] = [] from rfl, List.append_nil] at this
    exact this.symm
  | succ k ih =>
    intro l h
    have hm : (32 : UInt8) ∈ l := List.count_pos_iff.1 (by omega)
    obtain ⟨x, m, rfl, hx⟩ := List.eq_append_cons_of_mem hm
    have hx' : ∀ c ∈ x, c ≠ 32 := fun c hc e => hx (e ▸ hc)
    have hi : Lib.index (x ++ 32 :: m) [32] = (x.length : Int) := by rw [Lib.index_one, index_first x hx' m]
    have h0 : x.count 32 = 0 := List.count_eq_zero.2 hx
    have hc : m.count 32 = k := by
      rw [List.count_append, List.count_cons_self, h0] at h
      omega
    have e1 : cutL (x ++ 32 :: m) = x :: cutL m := by
      have := cut_nospace x hx' (32 :: m) [] (cutL m) (by show (if (32 : UInt8) = 32 then _ else _) = _; rw [if_pos rfl])
      rwa [List.append_nil] at this
    rw [e1, ← ih m hc]
    show (if (Lib.index (x ++ 32 :: m) [32] == -1) = true then [x ++ 32 :: m] else (x ++ 32 :: m).take ((Lib.index (x ++ 32 :: m) [32]).toNat + 0) :: Lib.splitK [32] 0 k ((x ++ 32 :: m).drop ((Lib.index (x ++ 32 :: m) [32]).toNat + [32].length))) = _
    rw [hi, if_neg (by simp)]
    have e2 : (x ++ 32 :: m).take ((x.length : Int).toNat + 0) = x := by simp
    have e3 : (x ++ 32 :: m).drop ((x.length : Int).toNat + [(32 : UInt8)].length) = m := by simp
    rw [e2, e3]
theorem dec_nospace (n : Nat) : ∀ c ∈ Lib.decDigits n, c ≠ 32 := by
  intro c hc e
  have := dec_digits n c hc
  rw [e] at this
  unfold Digit at this
  have e2 : (32 : UInt8).toNat = 32 := rfl
  omega

end Go.Proofs.YtinjblbfaijhdaaDoor.Pl
